/- Records: order. -/
import Derived.Test.YtoccifhckpjfaaaRec37a
namespace Go.Proofs.Ytoccifhckpjfaaa
set_option linter.all false
open Go.Idl
set_option maxHeartbeats 8000000
set_option maxRecDepth 100000
attribute [local go_sem] Try.underlying3 Try.underlying5 Try.underlying9 Try.underlying4 Try.underlying30 Try.underlying22
abbrev SOrd : List V → Option V := FT fun (t : List EvD × Unit) => if 1 ≤ t.1.length ∧ t.1.length ≤ 100000 then some (orderS t.1) else none
theorem isF_evs (l : List EvD) : (l.map Cod.enc).all V.isF = true := by
  simp only [List.all_map, List.all_eq_true]
  intro x _
  rfl
theorem low_evs (n : Nat) (l : List EvD) : (l.map Cod.enc).all (V.low n) = true := by
  simp only [List.all_map, List.all_eq_true]
  intro x _
  rfl
theorem okE_evs (l : List EvD) : (l.map Cod.enc).all (okE 10) = true := by
  simp only [List.all_map, List.all_eq_true]
  intro x _
  rfl
theorem con16 {Φ : Specs} (hg : Idl.Good Try.prog Φ) (h33 : Φ 33 = some SEv) (hcl : Φ 34 = none) (hss : Φ 35 = none)
    (hst : Φ 52 = none) (hin : Φ 61 = none) (hsw : Φ 64 = none) (hro : Φ 63 = none) (hsy : Φ 62 = none)
    (h37 : Φ 37 = some SSame) : Contract Try.prog 16 SOrd := by
  refine conT hg k16 ic16 (by decide) fun C t r h => ?_
  obtain ⟨l, u⟩ := t
  dsimp only at h
  split at h
  · rename_i hl
    obtain ⟨hl1, hl2⟩ := hl
    cases h
    obtain ⟨x0, hx0⟩ : ∃ x0, l[0]? = some x0 := ⟨l[0]'(by omega), by simp⟩
    have hh : l.head? = some x0 := by rw [List.head?_eq_getElem?]; exact hx0
    simp +contextual only [go_sem, ↓reduceIte, Nat.reduceEqDiff, Nat.reduceAdd, Nat.reduceLeDiff, Nat.reduceLT, reduceCtorEq, c16, k16]
    refine TriI.loopL hg k16 l (fun i (_ : Unit) => ⟨slotsL [(0, Cod.enc l), (2, .sc (.slice none 0 0)), (3, .sc (.int .i64 0)), (14, Cod.enc l), (15, .sc (.int .i64 l.length)), (16, .sc (.int .i64 i))], objsL [], 0⟩)
      (fun xs _ => badE xs = badE l) () (.back rfl ?_) rfl ?_ ?_
    · simp +contextual only [go_sem, ↓reduceIte, Nat.reduceEqDiff, Nat.reduceAdd, Nat.reduceLeDiff, Nat.reduceLT, reduceCtorEq, List.length_map]
      rfl
    · intro _ hbad
      have hbad0 : badE l = 0 := hbad.symm
      have hev := badE_zero hbad0
      have hb0 : (badE l != 0) = false := by rw [hbad0]; rfl
      simp +contextual only [go_sem, ↓reduceIte, Nat.reduceEqDiff, Nat.reduceAdd, Nat.reduceLeDiff, Nat.reduceLT, reduceCtorEq, k16, Int.lt_irrefl, decide_false]
      refine TriI.loopL hg k16 l (fun i (_ : Unit) => ⟨slotsL [(0, Cod.enc l), (2, .sc (.slice none 0 0)), (3, .sc (.int .i64 0)), (26, Cod.enc l), (27, .sc (.int .i64 l.length)), (28, .sc (.int .i64 i))], objsL [], 0⟩)
        (fun xs _ => xs.all (fun x => keyEq x x0) = l.all (fun x => keyEq x x0)) () (.back rfl ?_) rfl ?_ ?_
      · simp +contextual only [go_sem, ↓reduceIte, Nat.reduceEqDiff, Nat.reduceAdd, Nat.reduceLeDiff, Nat.reduceLT, reduceCtorEq, List.length_map]
        rfl
      · intro _ hall
        have hallk : l.all (fun x => (l.head?.map (keyEq x)).getD true) = true := by rw [hh]; exact hall.symm
        simp +contextual only [go_sem, ↓reduceIte, Nat.reduceEqDiff, Nat.reduceAdd, Nat.reduceLeDiff, Nat.reduceLT, reduceCtorEq, k16, Int.lt_irrefl, decide_false, hcl]
        have hl1' : LowC C.ctx 0 := LowC.top _ _
        refine CallT.of_walk hg k34 ic34 (by simp) fun C1 hlow1 => ?_
        have b1 : l.length * 120 ≤ 68719476736 := by omega
        have b2 : l.length ≤ 4294967296 := by omega
        simp +contextual only [go_sem, ↓reduceIte, Nat.reduceEqDiff, Nat.reduceAdd, Nat.reduceLeDiff, Nat.reduceLT, reduceCtorEq, c34, k34]
        refine stepI_nil Try.underlying22 rfl fun b hb => ?_
        cases b with
        | true => exact absurd (hb rfl) (by intro h0; simp at h0; simp [h0] at hl1)
        | false =>
          have hT : List.drop 0 (List.take l.length (l.map Cod.enc)) = l.map Cod.enc := by rw [List.drop_zero, List.take_of_length_le (by simp)]
          simp +contextual only [go_sem, ↓reduceIte, Nat.reduceEqDiff, Nat.reduceAdd, Nat.reduceLeDiff, Nat.reduceLT, reduceCtorEq, k34, hss, b1, b2, okE_evs, List.length_map, Nat.zero_add, List.nil_append, hT]
          refine ctSS hg hst hin hsw hro hsy (elsE l) (cmpE hg hev) (fun x => by omega) (fun x y z h1 h2 => by omega) (fun x y z h1 h2 => by omega) (N := l.length) (by omega) (by rw [row_all]; simp [updH]) fun T hT1 hT2 => ?_
          rw [row_tags, sortS_tags hT1 hT2]
          have hSl : (sortS l).length = l.length := (sortS_perm l).length_eq
          have hSm : ∀ x, x ∈ sortS l → x ∈ l := fun x hx => (sortS_perm l).mem_iff.1 hx
          have horder : orderS l = match dedE [] none (sortS l) with
            | some es => (es, 0)
            | none => ([], 23) := by
              simp only [orderS, hb0, hallk, cond_true, cond_false]
              cases dedE [] none (sortS l) <;> rfl
          rw [horder]
          generalize sortS l = S at *
          simp +contextual only [go_sem, ↓reduceIte, Nat.reduceEqDiff, Nat.reduceAdd, Nat.reduceLeDiff, Nat.reduceLT, reduceCtorEq, k16]
          refine TriI.loopL hg k16 S (fun i (out : List EvD) => ⟨slotsL [(2, .sc (.slice none 0 0)), (3, .sc (.int .i64 0)), (10, .own 1 0 out.length), (53, .own 0 0 l.length), (54, .sc (.int .i64 l.length)), (55, .sc (.int .i64 i))], objsL [.live 10 (S.map Cod.enc) true, .live 10 (out.map Cod.enc) true], 2⟩)
            (fun xs out => dedE out out.getLast? xs = dedE [] none S ∧ out.length + xs.length ≤ l.length ∧ ∀ y, y ∈ out → y ∈ l) [] (.ren [some 1, none] rfl rfl 0 ?_) ⟨rfl, by simp [hSl], by simp⟩ ?_ ?_
          · simp +contextual only [go_sem, ↓reduceIte, Nat.reduceEqDiff, Nat.reduceAdd, Nat.reduceLeDiff, Nat.reduceLT, reduceCtorEq, List.length_map, List.map_nil, List.length_nil, low_evs]
            rfl
          · rintro out ⟨h1, h2, h3⟩
            have hdd : dedE [] none S = some out := by rw [← h1]; cases out.getLast? <;> rfl
            have hTk : (out.map Cod.enc).take out.length = out.map Cod.enc := List.take_of_length_le (by simp)
            rw [hSl, hdd]
            simp +contextual only [go_sem, ↓reduceIte, Nat.reduceEqDiff, Nat.reduceAdd, Nat.reduceLeDiff, Nat.reduceLT, reduceCtorEq, k16, Int.lt_irrefl, decide_false, Nat.zero_add, List.length_map, Nat.le_refl, isF_evs, hTk, decL_enc Cod.dec_enc, true_and, and_true]
          · rintro i out x xs hd hlt hx ⟨h1, h2, h3⟩
            rw [hSl] at hlt
            have hw := wrap_nat hlt (by omega)
            have hltI : ((i : Nat) : Int) < ((l.length : Nat) : Int) := by omega
            have hmx := hSm x (List.mem_of_getElem? hx)
            have b3 : (out.length + 1) * 120 ≤ 68719476736 := by simp at h2; omega
            have b4 : out.length + 1 ≤ 4294967296 := by omega
            rcases List.eq_nil_or_concat out with h0 | ⟨P, y, h0⟩
            · have hn0 : (((out.length : Nat) : Int) == 0) = true := by rw [h0]; rfl
              simp +contextual only [go_sem, ↓reduceIte, Nat.reduceEqDiff, Nat.reduceAdd, Nat.reduceLeDiff, Nat.reduceLT, reduceCtorEq, k16, hn0, lt_dec hlt, hltI, hx, hw, b3, b4, okE, beq_self_eq_true, List.length_map, List.length_nil, List.getElem?_map, Option.map_some, Int.natCast_nonneg, Int.toNat_natCast, Nat.zero_add, List.drop_zero, true_and, and_true]
              refine ⟨by rfl, out ++ [x], ⟨?_, by simp at h2 ⊢; omega, ?_⟩, .ren [some 0, some 18] rfl rfl 1 ?_⟩
              · rw [← h1, h0]; rfl
              · intro z hz
                rcases List.mem_append.1 hz with hz | hz
                · exact h3 z hz
                · rw [List.mem_singleton] at hz; rw [hz]; exact hmx
              · simp +contextual only [go_sem, ↓reduceIte, Nat.reduceEqDiff, Nat.reduceAdd, Nat.reduceLeDiff, Nat.reduceLT, reduceCtorEq, List.map_append, List.map_cons, List.map_nil, List.length_append, List.length_cons, List.length_nil, List.all_append, low_evs, Nat.zero_add]
            · rw [List.concat_eq_append] at h0
              subst h0
              have hPl : P.length ≤ 100000 := by simp at h2; omega
              have hn1 : ((((P ++ [y]).length : Nat) : Int) == 0) = false := by simp; omega
              have hwn : IntKind.i64.wrap ((((P ++ [y]).length : Nat) : Int) - 1) = ((P.length : Nat) : Int) := by rw [List.length_append, List.length_cons, List.length_nil, IntKind.wrap_i64]; omega
              have hPN : ((P.length : Nat) : Int) < (((P ++ [y]).length : Nat) : Int) := by simp; omega
              have hy : (P ++ [y])[P.length]? = some y := by simp
              have hyr : y.rds.length ≤ 1000000 := by have := (evS_ok (hev y (h3 y (by simp)))).2.2; omega
              generalize hQ : P ++ [y] = Q at *
              simp +contextual only [go_sem, ↓reduceIte, Nat.reduceEqDiff, Nat.reduceAdd, Nat.reduceLeDiff, Nat.reduceLT, reduceCtorEq, k16, lt_dec hlt, hltI, hx, hw, b3, b4, hn1, hwn, hPN, hy, hyr, h37, okE, List.length_map, List.length_nil, List.getElem?_map, Option.map_some, Int.natCast_nonneg, Int.toNat_natCast, Nat.zero_add, List.drop_zero, true_and, and_true]
              have hlast : Q.getLast? = some y := by rw [← hQ]; simp
              rw [hlast] at h1
              have hded : dedE Q (some y) (x :: xs) = bif y.seq != x.seq then dedE (Q ++ [x]) (some x) xs else bif sameE y x then dedE Q (some y) xs else none := rfl
              refine ⟨by rfl, fun hs => ⟨Q ++ [x], ⟨?_, by simp at h2 ⊢; omega, ?_⟩, .ren [some 0, some 18] rfl rfl 1 ?_⟩, fun hs => ⟨by rfl, fun hs2 => ?_, fun hs2 => ⟨Q, ⟨?_, by simp at h2 ⊢; omega, h3⟩, .back rfl ?_⟩⟩⟩
              · rw [← h1, hded, hs, cond_true]; simp
              · intro z hz
                rcases List.mem_append.1 hz with hz | hz
                · exact h3 z hz
                · rw [List.mem_singleton] at hz; rw [hz]; exact hmx
              · simp +contextual only [go_sem, ↓reduceIte, Nat.reduceEqDiff, Nat.reduceAdd, Nat.reduceLeDiff, Nat.reduceLT, reduceCtorEq, List.map_append, List.map_cons, List.map_nil, List.length_append, List.length_cons, List.length_nil, List.all_append, low_evs, Nat.zero_add]
              · have hs3 : sameE y x = false := by simpa using hs2
                rw [← h1, hded, hs, hs3, cond_false, cond_false]
              · have hs3 : sameE y x = true := by simpa using hs2
                rw [hlast, ← h1, hded, hs, hs3, cond_false, cond_true]
              · simp +contextual only [go_sem, ↓reduceIte, Nat.reduceEqDiff, Nat.reduceAdd, Nat.reduceLeDiff, Nat.reduceLT, reduceCtorEq, low_evs]
      · intro i _ x xs hd hlt hx hinv
        have hw := wrap_nat hlt (by omega)
        simp +contextual only [go_sem, ↓reduceIte, Nat.reduceEqDiff, Nat.reduceAdd, Nat.reduceLeDiff, Nat.reduceLT, reduceCtorEq, k16, lt_dec hlt, hx, hx0, hw, List.length_map, List.getElem?_map, Option.map_some, Int.natCast_nonneg, Int.toNat_natCast, Int.toNat_zero, Int.le_refl]
        have hkey : keyEq x x0 = (decide (x.station = x0.station) && decide (x.txn = x0.txn)) := rfl
        have hno : keyEq x x0 = false → (([], 23) : List EvD × Int) = orderS l := fun hk => by
          have : (l.all (fun x => (l.head?.map (keyEq x)).getD true)) = false := by
            rw [hh]
            show l.all (fun x => keyEq x x0) = false
            rw [← hinv, List.all_cons, hk, Bool.false_and]
          simp only [orderS, hb0, this, cond_false]
        refine ⟨fun hs => ⟨by rfl, fun ht => ?_, fun ht => ⟨(), ?_, .back rfl ?_⟩⟩, fun hs => ⟨by rfl, ?_⟩⟩
        · have ht2 : decide (x.txn = x0.txn) = false := by simpa using ht
          exact hno (by rw [hkey, ht2, Bool.and_false])
        · have ht2 : decide (x.txn = x0.txn) = true := by simpa using ht
          have hs2 : decide (x.station = x0.station) = true := by simpa using hs
          rw [← hinv, List.all_cons, hkey, hs2, ht2]; rfl
        · simp +contextual only [go_sem, ↓reduceIte, Nat.reduceEqDiff, Nat.reduceAdd, Nat.reduceLeDiff, Nat.reduceLT, reduceCtorEq]
        · have hs2 : decide (x.station = x0.station) = false := by simpa using hs
          exact hno (by rw [hkey, hs2, Bool.false_and])
    · intro i _ x xs hd hlt hx hinv
      have hw := wrap_nat hlt (by omega)
      have hbx : badE (x :: xs) = bif evS x != 0 then evS x else badE xs := rfl
      simp +contextual only [go_sem, ↓reduceIte, Nat.reduceEqDiff, Nat.reduceAdd, Nat.reduceLeDiff, Nat.reduceLT, reduceCtorEq, k16, lt_dec hlt, hx, hw, h33, List.length_map, List.getElem?_map, Option.map_some, Int.natCast_nonneg, Int.toNat_natCast]
      refine ⟨fun hb => ?_, fun hb => ⟨(), ?_, .back rfl ?_⟩⟩
      · have hb2 : badE l = evS x := by rw [← hinv, hbx, hb, cond_true]
        simp only [orderS, hb2, hb, cond_true]
      · rw [← hinv, hbx, hb, cond_false]
      · simp +contextual only [go_sem, ↓reduceIte, Nat.reduceEqDiff, Nat.reduceAdd, Nat.reduceLeDiff, Nat.reduceLT, reduceCtorEq]
  · cases h
end Go.Proofs.Ytoccifhckpjfaaa
