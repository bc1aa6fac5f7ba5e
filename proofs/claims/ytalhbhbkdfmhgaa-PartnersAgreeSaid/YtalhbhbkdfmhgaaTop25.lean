/- After any exchange both partners agree: the walk. -/
import Derived.Test.YtalhbhbkdfmhgaaDis25
namespace Go.Proofs.Ytalhbhbkdfmhgaa
set_option linter.all false
open Go.Idl
set_option linter.all false
set_option maxHeartbeats 16000000
set_option maxRecDepth 100000
attribute [local go_sem] agPty agCdr agDis eqDis agDir agObj eqItm agBal eqBal Try.underlying3 Try.underlying5 Try.underlying34 Try.underlying9 Try.underlying4
theorem newA_eq : newP ⟨#[65]⟩ = (pty0 false [], 0) := by kernel_rfl
theorem newB_eq : newP ⟨#[66]⟩ = (pty0 true [], 0) := by kernel_rfl
theorem okY0 (w : Bool) {l : List DealD} (hl : l.length ≤ 10) : OkY (pty0 w (rcs w 0 l)) := by
  obtain ⟨h1, h2⟩ := pty0_ok w hl (List.Sublist.refl (rcs w 0 l))
  exact ⟨h1, h2, pty0_valid w hl, by show (1 : Int) ≤ _; decide⟩
theorem rcs_pre (w : Bool) (a b : List DealD) (i : Nat) : (rcs w i a).Sublist (rcs w i (a ++ b)) := by
  induction a generalizing i with
  | nil => exact List.nil_sublist _
  | cons x a ih =>
    rw [List.cons_append, rcs, rcs]
    exact (List.Sublist.refl _).append (ih (i + 1))
theorem k_cat (i : Nat) : (⟨#[107]⟩ : ByteArray) ++ cId i = kId i := bs_cat [107] [99, sdig i]
theorem con3 {Φ : Specs} (hg : Idl.Good Try.prog Φ) (h4 : Φ 4 = some SNewP) (h5 : Φ 5 = some SDlt) (h6 : Φ 6 = some SBil) (h7 : Φ 7 = some SCrt) (h8 : Φ 8 = some SSyn)
    (h9 : Φ 9 = some SDpd) (h10 : Φ 10 = some SAgA) (h11 : Φ 11 = some SBld) : Contract Try.prog 3 (FT fun (t : List DealD × Unit) => if t.1.length ≤ 9223372036854775807 then some true else none) := by
  refine conT hg k3 ic3 (by decide) fun C t r h => ?_
  obtain ⟨l, u⟩ := t
  dsimp only at h
  split at h
  case isFalse => cases h
  rename_i hz
  cases h
  by_cases hl0 : 10 < l.length
  · have t1 : decide ((l.length : Int) > 10) = true := by simp; omega
    simp +contextual only [go_sem, ↓reduceIte, Nat.reduceEqDiff, Nat.reduceAdd, Nat.reduceLeDiff, Nat.reduceLT, reduceCtorEq, c3, k3, List.length_map, t1]
  have t1 : decide ((l.length : Int) > 10) = false := by simp; omega
  have hl : l.length ≤ 10 := by omega
  obtain ⟨A0, hA0⟩ : ∃ A0, A0 = pty0 false (rcs false 0 []) := ⟨_, rfl⟩
  obtain ⟨B0, hB0⟩ : ∃ B0, B0 = pty0 true (rcs true 0 []) := ⟨_, rfl⟩
  have q1 : newP ⟨#[65]⟩ = (A0, 0) := by rw [hA0]; exact newA_eq
  have q2 : newP ⟨#[66]⟩ = (B0, 0) := by rw [hB0]; exact newB_eq
  simp +contextual only [go_sem, ↓reduceIte, Nat.reduceEqDiff, Nat.reduceAdd, Nat.reduceLeDiff, Nat.reduceLT, reduceCtorEq, c3, k3, List.length_map, t1, h4, q1, q2, bne_self_eq_false]
  refine TriI.loopL hg k3 l (fun i (pre : List DealD) => ⟨slotsL [(0, Cod.enc l), (2, .sc (.bool false)), (3, .ref 0 0 0), (5, .ref 1 0 0), (7, .sc (.int .i64 (wantS pre))), (33, Cod.enc l), (34, .sc (.int .i64 l.length)), (35, .sc (.int .i64 i))],
      objsL [.live 7 [Cod.enc (pty0 false (rcs false 0 pre))] true, .live 7 [Cod.enc (pty0 true (rcs true 0 pre))] true], 2⟩)
    (fun xs pre => l = pre ++ xs) [] (.ren [some 0, some 2] rfl rfl 1 ?_) rfl ?_ ?_
  · rw [hA0, hB0]
    simp +contextual only [go_sem, ↓reduceIte, Nat.reduceEqDiff, Nat.reduceAdd, Nat.reduceLeDiff, Nat.reduceLT, reduceCtorEq, List.length_map]
    exact ⟨rfl, rfl⟩
  · intro pre hpre
    rw [List.append_nil] at hpre
    subst hpre
    have hY1 := okY0 false hl
    have hY2 := okY0 true hl
    have hne : ¬ (pty0 false (rcs false 0 l)).name = (pty0 true (rcs true 0 l)).name := AB
    have hsy := sync_first hl
    obtain ⟨A, hA⟩ : ∃ A, A = pty0 false (rcs false 0 l) := ⟨_, rfl⟩
    obtain ⟨B, hB⟩ : ∃ B, B = pty0 true (rcs true 0 l) := ⟨_, rfl⟩
    obtain ⟨A1, hA1⟩ : ∃ A1, A1 = pty1 false l [] := ⟨_, rfl⟩
    obtain ⟨B1, hB1⟩ : ∃ B1, B1 = pty1 true l [] := ⟨_, rfl⟩
    obtain ⟨P, hP⟩ : ∃ P, P = finP false l := ⟨_, rfl⟩
    obtain ⟨Q, hQ⟩ : ∃ Q, Q = finP true l := ⟨_, rfl⟩
    rw [← hA, ← hB, ← hA1, ← hB1] at hsy
    rw [← hA, ← hB] at hne
    rw [← hA] at hY1
    rw [← hB] at hY2
    have hbeg : isBeg A1 B1 l := ⟨hl, hA1, hB1⟩
    have v1 : validP P = 0 := by rw [hP]; exact fin_valid false hl
    have v2 : validP Q = 0 := by rw [hQ]; exact fin_valid true hl
    have o1 : okS P = true := by rw [hP]; exact (pty1_ok false hl (by have := (good_fin false hl).len; omega)).1
    have o2 : okS Q = true := by rw [hQ]; exact (pty1_ok true hl (by have := (good_fin true hl).len; omega)).1
    have a1 : agrS P Q = true := by rw [hP, hQ]; exact fin_agree false hl
    have a2 : agrS Q P = true := by rw [hP, hQ]; exact fin_agree true hl
    have g1 := sum_in wv wv_in l
    have g2 := sum_in gv gv_in l
    have w1 : IntKind.i64.wrap (wantS l - grtS l) = wantS l - grtS l := by rw [IntKind.wrap_i64]; unfold wantS grtS; omega
    have hfin : isFin P Q (wantS l - grtS l) := ⟨l, hl, hP, hQ, rfl⟩
    simp +contextual only [go_sem, ↓reduceIte, Nat.reduceEqDiff, Nat.reduceAdd, Nat.reduceLeDiff, Nat.reduceLT, reduceCtorEq, k3, ← hA, ← hB, Int.lt_irrefl, decide_false, h8, hY1, hY2, hne, hsy, not_false_eq_true, and_self, bne_self_eq_false, List.length_map, h9, hbeg, ← hP, ← hQ, h10, v1, v2, o1, o2, a1, a2, h11, w1, hfin]
  · intro i pre x xs hdr hlt hx hpre
    have hw := wrap_nat hlt (by omega)
    have hi := pre_at hpre hdr
    have hi10 : 0 ≤ (i : Int) ∧ (i : Int) < 10 := by omega
    have hnt : ((i : Nat) : Int).toNat = i := Int.toNat_natCast i
    obtain ⟨n0, n1⟩ := net_in x
    have hgs : wantS (pre ++ [x]) = wantS pre + wv x := by unfold wantS; rw [List.map_append, List.sum_append]; simp
    have hgb := sum_in wv wv_in pre
    have hpl : pre.length ≤ 10 := by omega
    have hbr := bill_rec hl hpre
    rw [← hi] at hbr
    obtain ⟨hb1, hsub⟩ := hbr
    have hpreS : ∀ w, (rcs w 0 pre).Sublist (rcs w 0 l) := fun w => by rw [hpre]; exact rcs_pre w _ _ _
    obtain ⟨R, hR⟩ : ∃ R, R = recD i x := ⟨_, rfl⟩
    obtain ⟨K, hK⟩ : ∃ K, K = creD i x := ⟨_, rfl⟩
    have hRi : R.items.length ≤ 1000000 := by rw [hR]; show 1 ≤ 1000000; decide
    have hKi : K.items.length ≤ 1000000 := by rw [hK]; show 1 ≤ 1000000; decide
    have hRt : R.total = x.net.val := by rw [hR]; rfl
    have hRd : R.id = cId i := by rw [hR]; rfl
    have hcr : crS R (kId i) = (K, 0) := by rw [hR, hK]; exact cre_eq (by omega) x
    have hkc : (⟨#[107]⟩ : ByteArray) ++ R.id = kId i := by rw [hRd]; exact k_cat i
    have hks : (((⟨#[107]⟩ : ByteArray).size + R.id.size : Nat) : Int) ≤ IntKind.i64.max := by
      rw [hRd]; show ((3 : Nat) : Int) ≤ _; decide
    rw [← hR] at hb1 hsub
    have okm := pty0_ok x.back hl hsub
    obtain ⟨A, hA⟩ : ∃ A, A = pty0 false (rcs false 0 pre) := ⟨_, rfl⟩
    obtain ⟨B, hB⟩ : ∃ B, B = pty0 true (rcs true 0 pre) := ⟨_, rfl⟩
    have okA := pty0_ok false hl (hpreS false)
    have okB := pty0_ok true hl (hpreS true)
    rw [← hA] at okA
    rw [← hB] at okB
    obtain ⟨okA1, okA2⟩ := okA
    obtain ⟨okB1, okB2⟩ := okB
    obtain ⟨okm1, okm2⟩ := okm
    cases hb : x.back with
    | true =>
      rw [hb] at hb1 okm1 okm2
      rw [← hB] at hb1
      obtain ⟨M, hM⟩ : ∃ M, M = pty0 true (rcs true 0 pre ++ [R]) := ⟨_, rfl⟩
      rw [← hM] at hb1 okm1 okm2
      have e2 : rcs false 0 (pre ++ [x]) = rcs false 0 pre := by rw [rcs_app, if_neg (by rw [hb]; decide), List.append_nil]
      have hxe : (⟨true, x.net, x.claim, x.granted, x.credited⟩ : DealD) = x := by rw [← hb]
      cases hcd : x.credited with
      | true =>
        have hxe2 : (⟨true, x.net, x.claim, x.granted, true⟩ : DealD) = x := by
          have e : (⟨x.back, x.net, x.claim, x.granted, x.credited⟩ : DealD) = x := rfl
          rw [hb, hcd] at e; exact e
        have hb2 := bill_cre hl hpre hcd
        rw [← hi, hb, ← hR, ← hK, ← hM] at hb2
        obtain ⟨N, hN⟩ : ∃ N, N = pty0 true (rcs true 0 (pre ++ [x])) := ⟨_, rfl⟩
        rw [← hN] at hb2
        have w1 : IntKind.i64.wrap (wantS pre + 0) = wantS (pre ++ [x]) := by
          have : wv x = 0 := by unfold wv nv; rw [hcd]; simp
          rw [hgs, this, IntKind.wrap_i64]; unfold wantS; omega
        have w0 : IntKind.i64.wrap (0 - 0) = 0 := by decide
        simp (config := { maxSteps := 10000000 }) +contextual only [go_sem, ↓reduceIte, Nat.reduceEqDiff, Nat.reduceAdd, Nat.reduceLeDiff, Nat.reduceLT, reduceCtorEq, k3, ← hA, ← hB, lt_dec hlt, hx, hw, hb, hcd, hnt, h5, hi10, h6, h7, okA1, okA2, okB1, okB2, okm1, okm2, ← hR, hRi, hKi, hcr, hkc, hks, hb1, hb2, hxe, hxe2, dk16, w0, w1, and_self, bne_self_eq_false, List.length_map, List.getElem?_map, Option.map_some, Int.natCast_nonneg, Int.toNat_natCast]
        refine ⟨pre ++ [x], by rw [hpre]; simp, .back rfl ?_⟩
        simp +contextual only [go_sem, ↓reduceIte, Nat.reduceEqDiff, Nat.reduceAdd, Nat.reduceLeDiff, Nat.reduceLT, reduceCtorEq, List.length_map, e2, ← hA, ← hN]
      | false =>
        have hxe2 : (⟨true, x.net, x.claim, x.granted, false⟩ : DealD) = x := by
          have e : (⟨x.back, x.net, x.claim, x.granted, x.credited⟩ : DealD) = x := rfl
          rw [hb, hcd] at e; exact e
        have hMN : M = pty0 true (rcs true 0 (pre ++ [x])) := by rw [hM, rcs_app, if_pos hb, billD, if_neg (by rw [hcd]; decide), Nat.zero_add, ← hi, hR]
        have w0 : IntKind.i64.wrap (0 - R.total) = -x.net.val := by rw [hRt, IntKind.wrap_i64]; omega
        have w1 : IntKind.i64.wrap (wantS pre + -x.net.val) = wantS (pre ++ [x]) := by
          have : wv x = -x.net.val := by unfold wv nv; rw [hcd, hb]; simp
          rw [hgs, this, IntKind.wrap_i64]; unfold wantS; omega
        simp +contextual only [go_sem, ↓reduceIte, Nat.reduceEqDiff, Nat.reduceAdd, Nat.reduceLeDiff, Nat.reduceLT, reduceCtorEq, k3, ← hA, ← hB, lt_dec hlt, hx, hw, hb, hcd, hnt, h5, hi10, h6, okA1, okA2, okB1, okB2, ← hR, hRi, hb1, hxe, hxe2, dk16, w0, w1, and_self, bne_self_eq_false, List.length_map, List.getElem?_map, Option.map_some, Int.natCast_nonneg, Int.toNat_natCast]
        refine ⟨pre ++ [x], by rw [hpre]; simp, .back rfl ?_⟩
        simp +contextual only [go_sem, ↓reduceIte, Nat.reduceEqDiff, Nat.reduceAdd, Nat.reduceLeDiff, Nat.reduceLT, reduceCtorEq, List.length_map, e2, ← hA, ← hMN]
    | false =>
      rw [hb] at hb1 okm1 okm2
      rw [← hA] at hb1
      obtain ⟨M, hM⟩ : ∃ M, M = pty0 false (rcs false 0 pre ++ [R]) := ⟨_, rfl⟩
      rw [← hM] at hb1 okm1 okm2
      have e2 : rcs true 0 (pre ++ [x]) = rcs true 0 pre := by rw [rcs_app, if_neg (by rw [hb]; decide), List.append_nil]
      have hxe : (⟨false, x.net, x.claim, x.granted, x.credited⟩ : DealD) = x := by rw [← hb]
      cases hcd : x.credited with
      | true =>
        have hxe2 : (⟨false, x.net, x.claim, x.granted, true⟩ : DealD) = x := by
          have e : (⟨x.back, x.net, x.claim, x.granted, x.credited⟩ : DealD) = x := rfl
          rw [hb, hcd] at e; exact e
        have hb2 := bill_cre hl hpre hcd
        rw [← hi, hb, ← hR, ← hK, ← hM] at hb2
        obtain ⟨N, hN⟩ : ∃ N, N = pty0 false (rcs false 0 (pre ++ [x])) := ⟨_, rfl⟩
        rw [← hN] at hb2
        have w1 : IntKind.i64.wrap (wantS pre + 0) = wantS (pre ++ [x]) := by
          have : wv x = 0 := by unfold wv nv; rw [hcd]; simp
          rw [hgs, this, IntKind.wrap_i64]; unfold wantS; omega
        have w0 : IntKind.i64.wrap (0 - 0) = 0 := by decide
        simp (config := { maxSteps := 10000000 }) +contextual only [go_sem, ↓reduceIte, Nat.reduceEqDiff, Nat.reduceAdd, Nat.reduceLeDiff, Nat.reduceLT, reduceCtorEq, k3, ← hA, ← hB, lt_dec hlt, hx, hw, hb, hcd, hnt, h5, hi10, h6, h7, okA1, okA2, okB1, okB2, okm1, okm2, ← hR, hRi, hKi, hcr, hkc, hks, hb1, hb2, hxe, hxe2, dk16, w0, w1, and_self, bne_self_eq_false, List.length_map, List.getElem?_map, Option.map_some, Int.natCast_nonneg, Int.toNat_natCast]
        refine ⟨pre ++ [x], by rw [hpre]; simp, .back rfl ?_⟩
        simp +contextual only [go_sem, ↓reduceIte, Nat.reduceEqDiff, Nat.reduceAdd, Nat.reduceLeDiff, Nat.reduceLT, reduceCtorEq, List.length_map, e2, ← hB, ← hN]
      | false =>
        have hxe2 : (⟨false, x.net, x.claim, x.granted, false⟩ : DealD) = x := by
          have e : (⟨x.back, x.net, x.claim, x.granted, x.credited⟩ : DealD) = x := rfl
          rw [hb, hcd] at e; exact e
        have hMN : M = pty0 false (rcs false 0 (pre ++ [x])) := by rw [hM, rcs_app, if_pos hb, billD, if_neg (by rw [hcd]; decide), Nat.zero_add, ← hi, hR]
        have w1 : IntKind.i64.wrap (wantS pre + R.total) = wantS (pre ++ [x]) := by
          have : wv x = x.net.val := by unfold wv nv; rw [hcd, hb]; simp
          rw [hgs, this, hRt, IntKind.wrap_i64]; unfold wantS; omega
        simp +contextual only [go_sem, ↓reduceIte, Nat.reduceEqDiff, Nat.reduceAdd, Nat.reduceLeDiff, Nat.reduceLT, reduceCtorEq, k3, ← hA, ← hB, lt_dec hlt, hx, hw, hb, hcd, hnt, h5, hi10, h6, okA1, okA2, okB1, okB2, ← hR, hRi, hb1, hxe, hxe2, dk16, w1, and_self, bne_self_eq_false, List.length_map, List.getElem?_map, Option.map_some, Int.natCast_nonneg, Int.toNat_natCast]
        refine ⟨pre ++ [x], by rw [hpre]; simp, .back rfl ?_⟩
        simp +contextual only [go_sem, ↓reduceIte, Nat.reduceEqDiff, Nat.reduceAdd, Nat.reduceLeDiff, Nat.reduceLT, reduceCtorEq, List.length_map, e2, ← hB, ← hMN]
end Go.Proofs.Ytalhbhbkdfmhgaa
