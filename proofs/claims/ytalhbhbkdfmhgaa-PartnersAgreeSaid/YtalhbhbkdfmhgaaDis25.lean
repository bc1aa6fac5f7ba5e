/- Disputes about the sessions: opened, exchanged, granted, exchanged. -/
import Derived.Test.YtalhbhbkdfmhgaaBal25
import Derived.Test.YtalhbhbkdfmhgaaSyn25r
namespace Go.Proofs.Ytalhbhbkdfmhgaa
set_option linter.all false
open Go.Idl
set_option linter.all false
set_option maxHeartbeats 16000000
set_option maxRecDepth 100000
attribute [local go_sem] agPty agCdr agDis eqDis agDir agObj eqItm agBal eqBal Try.underlying3 Try.underlying5 Try.underlying34 Try.underlying9 Try.underlying4
def dec4 {α β γ δ : Type} : Option α → Option β → Option γ → Option δ → Option (α × β × γ × δ)
  | some a, some b, some c, some d => some (a, b, c, d)
  | _, _, _, _ => none
@[go_sem ↓] theorem dec4_some {α β γ δ : Type} (a : α) (b : β) (c : γ) (d : δ) : dec4 (some a) (some b) (some c) (some d) = some (a, b, c, d) := rfl
def decP4 {α β γ δ : Type} [Cod α] [Cod β] [Cod γ] [Cod δ] : V → Option (α × β × γ × δ)
  | .tup [x, y, z, t] => dec4 (Cod.dec x) (Cod.dec y) (Cod.dec z) (Cod.dec t)
  | _ => none
instance inst4 (α β γ δ : Type) [Cod α] [Cod β] [Cod γ] [Cod δ] : CodR (α × β × γ × δ) where
  encR := fun p => .tup [Cod.enc p.1, Cod.enc p.2.1, Cod.enc p.2.2.1, Cod.enc p.2.2.2]
  decR := decP4
  leR := fun v p h => by
    unfold decP4 at h
    split at h
    · rename_i x y z t
      cases hx : (Cod.dec x : Option α) with
      | none => simp [hx, dec4] at h
      | some a =>
        cases hy : (Cod.dec y : Option β) with
        | none => simp [hx, hy, dec4] at h
        | some b =>
          cases hz : (Cod.dec z : Option γ) with
          | none => simp [hx, hy, hz, dec4] at h
          | some c =>
            cases ht : (Cod.dec t : Option δ) with
            | none => simp [hx, hy, hz, ht, dec4] at h
            | some d =>
              rw [hx, hy, hz, ht] at h
              cases h
              exact .tup (.cons (Cod.le _ _ hx).le (.cons (Cod.le _ _ hy).le (.cons (Cod.le _ _ hz).le (.cons (Cod.le _ _ ht).le .nil))))
    · cases h
@[go_sem ↓] theorem encR_4 {α β γ δ : Type} [Cod α] [Cod β] [Cod γ] [Cod δ] (p : α × β × γ × δ) : CodR.encR p = .tup [Cod.enc p.1, Cod.enc p.2.1, Cod.enc p.2.2.1, Cod.enc p.2.2.2] := rfl
@[go_sem ↓] theorem decR_4 {α β γ δ : Type} [Cod α] [Cod β] [Cod γ] [Cod δ] (x y z t : V) : (CodR.decR (.tup [x, y, z, t]) : Option (α × β × γ × δ)) = dec4 (Cod.dec x) (Cod.dec y) (Cod.dec z) (Cod.dec t) := rfl
def isBeg (a b : PartyD) (l : List DealD) : Prop := l.length ≤ 10 ∧ a = pty1 false l [] ∧ b = pty1 true l []
noncomputable abbrev SDpd : List V → Option V := FT fun (t : PartyD × PartyD × List DealD × Unit) => open Classical in if isBeg t.1 t.2.1 t.2.2.1 then some (finP false t.2.2.1, finP true t.2.2.1, grtS t.2.2.1, true) else none
theorem pre_at {α : Type} {l pre xs : List α} {x : α} {i : Nat} (h : l = pre ++ x :: xs) (hd : l.drop i = x :: xs) : i = pre.length := by
  have q1 := congrArg List.length h
  have q2 := congrArg List.length hd
  rw [List.length_append, List.length_cons] at q1
  rw [List.length_drop, List.length_cons] at q2
  omega
theorem okY1 (w : Bool) {l : List DealD} (hl : l.length ≤ 10) {D : List Disp} (h : GoodD l D) : OkY (pty1 w l D) := by
  have := h.len
  obtain ⟨h1, h2⟩ := pty1_ok w hl (D := D) (by omega)
  exact ⟨h1, h2, h.valid hl w, by show (1 : Int) ≤ _; decide⟩
theorem ne_name {l l' : List DealD} (D E : List Disp) : ¬ (pty1 false l D).name = (pty1 true l' E).name := by
  show ¬ nA = nB
  exact AB
theorem dk16 (k : KInt .u16) : (Cod.dec (V.sc (.int .u16 k.val)) : Option (KInt .u16)) = some k := Cod.dec_enc k
theorem con9 {Φ : Specs} (hg : Idl.Good Try.prog Φ) (h5 : Φ 5 = some SDlt) (h25 : Φ 25 = some SClm) (h26 : Φ 26 = some SAct) (h8 : Φ 8 = some SSyn) : Contract Try.prog 9 SDpd := by
  refine conT hg k9 ic9 (by decide) fun C t r h => ?_
  obtain ⟨a, b, l, u⟩ := t
  dsimp only at h
  split at h
  case isFalse => cases h
  rename_i hz
  cases h
  obtain ⟨hl, ha, hb⟩ := hz
  simp +contextual only [go_sem, ↓reduceIte, Nat.reduceEqDiff, Nat.reduceAdd, Nat.reduceLeDiff, Nat.reduceLT, reduceCtorEq, c9, k9, List.length_map]
  refine TriI.loopL hg k9 l (fun i (pre : List DealD) => ⟨slotsL [(2, Cod.enc l), (3, .ref 0 0 0), (4, .ref 1 0 0), (6, .ref 2 0 0), (7, .ref 3 0 0), (17, Cod.enc l), (18, .sc (.int .i64 l.length)), (19, .sc (.int .i64 i))],
      objsL [.live 7 [Cod.enc (pty1 false l (dsp true 0 0 pre))] true, .live 7 [Cod.enc (pty1 true l (dsp false 0 0 pre))] true, .live 7 [zeroPy] true, .live 7 [zeroPy] true], 4⟩)
    (fun xs pre => l = pre ++ xs) [] (.back rfl ?_) rfl ?_ ?_
  · rw [ha, hb]
    simp +contextual only [go_sem, ↓reduceIte, Nat.reduceEqDiff, Nat.reduceAdd, Nat.reduceLeDiff, Nat.reduceLT, reduceCtorEq, List.length_map]
    exact ⟨rfl, rfl, rfl⟩
  · intro pre hpre
    rw [List.append_nil] at hpre
    subst hpre
    have hG1 := good_one true 0 hl
    have hG2 := good_one false 0 hl
    have hY1 := okY1 false hl hG1
    have hY2 := okY1 true hl hG2
    have hne : ¬ (pty1 false l (dsp true 0 0 l)).name = (pty1 true l (dsp false 0 0 l)).name := ne_name _ _
    have hsy := sync_second hl
    obtain ⟨A, hA⟩ : ∃ A, A = pty1 false l (dsp true 0 0 l) := ⟨_, rfl⟩
    obtain ⟨B, hB⟩ : ∃ B, B = pty1 true l (dsp false 0 0 l) := ⟨_, rfl⟩
    obtain ⟨A2, hA2⟩ : ∃ A2, A2 = pty1 false l (dsp true 0 0 l ++ dsp false 0 0 l) := ⟨_, rfl⟩
    obtain ⟨B2, hB2⟩ : ∃ B2, B2 = pty1 true l (dsp false 0 0 l ++ dsp true 0 0 l) := ⟨_, rfl⟩
    rw [← hA, ← hB] at hsy hne
    rw [← hA2, ← hB2] at hsy
    rw [← hA] at hY1
    rw [← hB] at hY2
    simp +contextual only [go_sem, ↓reduceIte, Nat.reduceEqDiff, Nat.reduceAdd, Nat.reduceLeDiff, Nat.reduceLT, reduceCtorEq, k9, ← hA, ← hB, Int.lt_irrefl, decide_false, h8, hY1, hY2, hne, hsy, not_false_eq_true, and_self, bne_self_eq_false, List.length_map]
    refine TriI.loopL hg k9 l (fun i (pre : List DealD) => ⟨slotsL [(3, .ref 0 0 0), (4, .ref 1 0 0), (6, .ref 2 0 0), (7, .ref 3 0 0), (13, .sc (.int .i64 (grtS pre))), (80, Cod.enc l), (81, .sc (.int .i64 l.length)), (82, .sc (.int .i64 i))],
        objsL [.live 7 [Cod.enc (pty1 false l (dsp true 0 0 l ++ dsp false i 0 l))] true, .live 7 [Cod.enc (pty1 true l (dsp false 0 0 l ++ dsp true i 0 l))] true, .live 7 [zeroPy] true, .live 7 [zeroPy] true], 4⟩)
      (fun xs pre => l = pre ++ xs) [] (.back rfl ?_) rfl ?_ ?_
    · rw [hA2, hB2]
      simp +contextual only [go_sem, ↓reduceIte, Nat.reduceEqDiff, Nat.reduceAdd, Nat.reduceLeDiff, Nat.reduceLT, reduceCtorEq, List.length_map]
      exact ⟨rfl, rfl⟩
    · intro pre hpre
      rw [List.append_nil] at hpre
      subst hpre
      have hK1 := okY1 false hl (good_two true 0 l.length hl)
      have hK2 := okY1 true hl (good_two false 0 l.length hl)
      have hne2 : ¬ (pty1 false l (dsp true 0 0 l ++ dsp false l.length 0 l)).name = (pty1 true l (dsp false 0 0 l ++ dsp true l.length 0 l)).name := ne_name _ _
      have hsy2 := sync_third hl
      rw [Bool.not_true] at hK1
      rw [Bool.not_false] at hK2
      obtain ⟨P, hP⟩ : ∃ P, P = pty1 false l (dsp true 0 0 l ++ dsp false l.length 0 l) := ⟨_, rfl⟩
      obtain ⟨Q, hQ⟩ : ∃ Q, Q = pty1 true l (dsp false 0 0 l ++ dsp true l.length 0 l) := ⟨_, rfl⟩
      obtain ⟨P2, hP2⟩ : ∃ P2, P2 = finP false l := ⟨_, rfl⟩
      obtain ⟨Q2, hQ2⟩ : ∃ Q2, Q2 = finP true l := ⟨_, rfl⟩
      rw [← hP, ← hQ] at hsy2 hne2
      rw [← hP2, ← hQ2] at hsy2
      rw [← hP] at hK1
      rw [← hQ] at hK2
      simp +contextual only [go_sem, ↓reduceIte, Nat.reduceEqDiff, Nat.reduceAdd, Nat.reduceLeDiff, Nat.reduceLT, reduceCtorEq, k9, ← hP, ← hQ, ← hP2, ← hQ2, Int.lt_irrefl, decide_false, h8, hK1, hK2, hne2, hsy2, not_false_eq_true, and_self, bne_self_eq_false, beq_self_eq_true, List.length_map]
      rfl
    · intro i pre x xs hdr hlt hx hpre
      have hw := wrap_nat hlt (by omega)
      have hi := pre_at hpre hdr
      have hi10 : 0 ≤ (i : Int) ∧ (i : Int) < 10 := by omega
      have hnt : ((i : Nat) : Int).toNat = i := Int.toNat_natCast i
      have wc : IntKind.i64.wrap x.granted.val = x.granted.val := by
        have h0 : 0 ≤ x.granted.val := x.granted.2.1
        have h1 : x.granted.val ≤ 65535 := x.granted.2.2
        rw [IntKind.wrap_i64]; omega
      have hsk : (x.credited || decide (x.claim.val < 1) || decide (x.claim.val > x.net.val) || decide (x.granted.val < 1) || decide (x.granted.val > x.claim.val)) = !grd x := by
        unfold grd clm; cases x.credited <;> simp [Bool.or_assoc]
      have hgs : grtS (pre ++ [x]) = grtS pre + gv x := by unfold grtS; rw [List.map_append, List.sum_append]; simp
      have hgb := sum_in gv gv_in pre
      have hpl : pre.length ≤ 10 := by omega
      cases hc : grd x with
      | false =>
        rw [hc, Bool.not_false] at hsk
        have e1 : dsp true (i + 1) 0 l = dsp true i 0 l := dsp_step (d := x) (Nat.zero_le _) (by rw [Nat.sub_zero]; exact hx) fun h => by rw [hc] at h; cases h.2
        have e2 : dsp false (i + 1) 0 l = dsp false i 0 l := dsp_step (d := x) (Nat.zero_le _) (by rw [Nat.sub_zero]; exact hx) fun h => by rw [hc] at h; cases h.2
        have e3 : grtS (pre ++ [x]) = grtS pre := by
          rw [hgs]; unfold gv gg; rw [hc]; simp
        simp +contextual only [go_sem, ↓reduceIte, Nat.reduceEqDiff, Nat.reduceAdd, Nat.reduceLeDiff, Nat.reduceLT, reduceCtorEq, k9, lt_dec hlt, hx, hw, hsk, List.length_map, List.getElem?_map, Option.map_some, Int.natCast_nonneg, Int.toNat_natCast]
        refine ⟨pre ++ [x], by rw [hpre]; simp, .back rfl ?_⟩
        simp +contextual only [go_sem, ↓reduceIte, Nat.reduceEqDiff, Nat.reduceAdd, Nat.reduceLeDiff, Nat.reduceLT, reduceCtorEq, List.length_map, e1, e2, e3]
      | true =>
        rw [hc, Bool.not_true] at hsk
        have hcl := act_one hl hx hc
        have hG1 := good_two true 0 i hl
        have hG2 := good_two false 0 i hl
        rw [Bool.not_true] at hG1
        rw [Bool.not_false] at hG2
        have ok1 := pty1_ok false hl (D := dsp true 0 0 l ++ dsp false i 0 l) (by have := hG1.len; omega)
        have ok2 := pty1_ok true hl (D := dsp false 0 0 l ++ dsp true i 0 l) (by have := hG2.len; omega)
        have g0 : 0 ≤ x.granted.val := x.granted.2.1
        have g1 : x.granted.val ≤ 65535 := x.granted.2.2
        cases hb : x.back with
        | true =>
          rw [hb, Bool.not_true] at hcl
          have e2 : dsp false (i + 1) 0 l = dsp false i 0 l := dsp_step (d := x) (Nat.zero_le _) (by rw [Nat.sub_zero]; exact hx) fun h => by rw [hb] at h; cases h.1
          have e3 : grtS (pre ++ [x]) = grtS pre + -x.granted.val := by rw [hgs]; unfold gv gg; rw [hb, hc]; rfl
          have w1 : IntKind.i64.wrap (0 - x.granted.val) = -x.granted.val := by rw [IntKind.wrap_i64]; omega
          have w2 : IntKind.i64.wrap (grtS pre + -x.granted.val) = grtS (pre ++ [x]) := by rw [e3, IntKind.wrap_i64]; unfold grtS; omega
          obtain ⟨A, hA⟩ : ∃ A, A = pty1 false l (dsp true 0 0 l ++ dsp false i 0 l) := ⟨_, rfl⟩
          obtain ⟨B, hB⟩ : ∃ B, B = pty1 true l (dsp false 0 0 l ++ dsp true i 0 l) := ⟨_, rfl⟩
          obtain ⟨B', hB'⟩ : ∃ B', B' = pty1 true l (dsp false 0 0 l ++ dsp true (i + 1) 0 l) := ⟨_, rfl⟩
          rw [← hB, ← hB'] at hcl
          rw [← hB] at ok2
          obtain ⟨ok2a, ok2b⟩ := ok2
          have hid : (recD i x).id = cId i := rfl
          have hxe : (⟨true, x.net, x.claim, x.granted, x.credited⟩ : DealD) = x := by rw [← hb]
          simp +contextual only [go_sem, ↓reduceIte, Nat.reduceEqDiff, Nat.reduceAdd, Nat.reduceLeDiff, Nat.reduceLT, reduceCtorEq, k9, ← hA, ← hB, lt_dec hlt, hx, hw, hsk, hb, wc, hnt, h5, hi10, h26, ok2a, ok2b, hid, hcl, hxe, dk16, w1, w2, and_self, bne_self_eq_false, List.length_map, List.getElem?_map, Option.map_some, Int.natCast_nonneg, Int.toNat_natCast]
          refine ⟨rfl, pre ++ [x], by rw [hpre]; simp, .back rfl ?_⟩
          simp +contextual only [go_sem, ↓reduceIte, Nat.reduceEqDiff, Nat.reduceAdd, Nat.reduceLeDiff, Nat.reduceLT, reduceCtorEq, List.length_map, e2, ← hB', ← hA]
        | false =>
          rw [hb, Bool.not_false] at hcl
          have e2 : dsp true (i + 1) 0 l = dsp true i 0 l := dsp_step (d := x) (Nat.zero_le _) (by rw [Nat.sub_zero]; exact hx) fun h => by rw [hb] at h; cases h.1
          have e3 : grtS (pre ++ [x]) = grtS pre + x.granted.val := by rw [hgs]; unfold gv gg; rw [hb, hc]; rfl
          have w2 : IntKind.i64.wrap (grtS pre + x.granted.val) = grtS (pre ++ [x]) := by rw [e3, IntKind.wrap_i64]; unfold grtS; omega
          obtain ⟨A, hA⟩ : ∃ A, A = pty1 false l (dsp true 0 0 l ++ dsp false i 0 l) := ⟨_, rfl⟩
          obtain ⟨B, hB⟩ : ∃ B, B = pty1 true l (dsp false 0 0 l ++ dsp true i 0 l) := ⟨_, rfl⟩
          obtain ⟨A', hA'⟩ : ∃ A', A' = pty1 false l (dsp true 0 0 l ++ dsp false (i + 1) 0 l) := ⟨_, rfl⟩
          rw [← hA, ← hA'] at hcl
          rw [← hA] at ok1
          obtain ⟨ok1a, ok1b⟩ := ok1
          have hid : (recD i x).id = cId i := rfl
          have hxe : (⟨false, x.net, x.claim, x.granted, x.credited⟩ : DealD) = x := by rw [← hb]
          simp +contextual only [go_sem, ↓reduceIte, Nat.reduceEqDiff, Nat.reduceAdd, Nat.reduceLeDiff, Nat.reduceLT, reduceCtorEq, k9, ← hA, ← hB, lt_dec hlt, hx, hw, hsk, hb, wc, hnt, h5, hi10, h26, ok1a, ok1b, hid, hcl, hxe, dk16, w2, and_self, bne_self_eq_false, List.length_map, List.getElem?_map, Option.map_some, Int.natCast_nonneg, Int.toNat_natCast]
          refine ⟨rfl, pre ++ [x], by rw [hpre]; simp, .back rfl ?_⟩
          simp +contextual only [go_sem, ↓reduceIte, Nat.reduceEqDiff, Nat.reduceAdd, Nat.reduceLeDiff, Nat.reduceLT, reduceCtorEq, List.length_map, e2, ← hA', ← hB]
  · intro i pre x xs hdr hlt hx hpre
    have hw := wrap_nat hlt (by omega)
    have hi := pre_at hpre hdr
    have hi10 : 0 ≤ (i : Int) ∧ (i : Int) < 10 := by omega
    have n0 := x.claim.2.1
    have n1 := x.claim.2.2
    have wc : IntKind.i64.wrap x.claim.val = x.claim.val := by
      have h0 : 0 ≤ x.claim.val := n0
      have h1 : x.claim.val ≤ 65535 := n1
      rw [IntKind.wrap_i64]; omega
    have hnt : ((i : Nat) : Int).toNat = i := Int.toNat_natCast i
    have hsk : (x.credited || decide (x.claim.val < 1) || decide (x.claim.val > x.net.val)) = !clm x := by
      unfold clm; cases x.credited <;> simp
    cases hc : clm x with
    | false =>
      rw [hc, Bool.not_false] at hsk
      have e1 : dsp true 0 0 (pre ++ [x]) = dsp true 0 0 pre := dsp_skip fun h => by rw [hc] at h; cases h.2
      have e2 : dsp false 0 0 (pre ++ [x]) = dsp false 0 0 pre := dsp_skip fun h => by rw [hc] at h; cases h.2
      simp +contextual only [go_sem, ↓reduceIte, Nat.reduceEqDiff, Nat.reduceAdd, Nat.reduceLeDiff, Nat.reduceLT, reduceCtorEq, k9, lt_dec hlt, hx, hw, hsk, List.length_map, List.getElem?_map, Option.map_some, Int.natCast_nonneg, Int.toNat_natCast]
      refine ⟨pre ++ [x], by rw [hpre]; simp, .back rfl ?_⟩
      simp +contextual only [go_sem, ↓reduceIte, Nat.reduceEqDiff, Nat.reduceAdd, Nat.reduceLeDiff, Nat.reduceLT, reduceCtorEq, List.length_map, e1, e2]
    | true =>
      rw [hc, Bool.not_true] at hsk
      have hcl := claim_one hl hpre hc
      have hG1 : GoodD l (dsp true 0 0 pre) := good_sub (good_one true 0 hl) (by rw [hpre]; exact dsp_pre _ _ _ _ _)
      have hG2 : GoodD l (dsp false 0 0 pre) := good_sub (good_one false 0 hl) (by rw [hpre]; exact dsp_pre _ _ _ _ _)
      have ok1 := pty1_ok false hl (D := dsp true 0 0 pre) (by have := hG1.len; omega)
      have ok2 := pty1_ok true hl (D := dsp false 0 0 pre) (by have := hG2.len; omega)
      rw [← hi] at hcl
      cases hb : x.back with
      | true =>
        rw [hb, Bool.not_true] at hcl
        have e2 : dsp false 0 0 (pre ++ [x]) = dsp false 0 0 pre := dsp_skip fun h => by rw [hb] at h; cases h.1
        obtain ⟨A, hA⟩ : ∃ A, A = pty1 false l (dsp true 0 0 pre) := ⟨_, rfl⟩
        obtain ⟨B, hB⟩ : ∃ B, B = pty1 true l (dsp false 0 0 pre) := ⟨_, rfl⟩
        obtain ⟨A', hA'⟩ : ∃ A', A' = pty1 false l (dsp true 0 0 (pre ++ [x])) := ⟨_, rfl⟩
        rw [← hA, ← hA'] at hcl
        rw [← hA] at ok1
        obtain ⟨ok1a, ok1b⟩ := ok1
        have hid : (recD i x).id = cId i := rfl
        have hxe : (⟨true, x.net, x.claim, x.granted, x.credited⟩ : DealD) = x := by rw [← hb]
        simp +contextual only [go_sem, ↓reduceIte, Nat.reduceEqDiff, Nat.reduceAdd, Nat.reduceLeDiff, Nat.reduceLT, reduceCtorEq, k9, ← hA, ← hB, lt_dec hlt, hx, hw, hsk, hb, wc, hnt, h5, hi10, h25, ok1a, ok1b, hid, hcl, hxe, dk16, and_self, bne_self_eq_false, List.length_map, List.getElem?_map, Option.map_some, Int.natCast_nonneg, Int.toNat_natCast]
        refine ⟨rfl, pre ++ [x], by rw [hpre]; simp, .back rfl ?_⟩
        simp +contextual only [go_sem, ↓reduceIte, Nat.reduceEqDiff, Nat.reduceAdd, Nat.reduceLeDiff, Nat.reduceLT, reduceCtorEq, List.length_map, e2, ← hA', ← hB]
      | false =>
        rw [hb, Bool.not_false] at hcl
        have e2 : dsp true 0 0 (pre ++ [x]) = dsp true 0 0 pre := dsp_skip fun h => by rw [hb] at h; cases h.1
        obtain ⟨A, hA⟩ : ∃ A, A = pty1 false l (dsp true 0 0 pre) := ⟨_, rfl⟩
        obtain ⟨B, hB⟩ : ∃ B, B = pty1 true l (dsp false 0 0 pre) := ⟨_, rfl⟩
        obtain ⟨B', hB'⟩ : ∃ B', B' = pty1 true l (dsp false 0 0 (pre ++ [x])) := ⟨_, rfl⟩
        rw [← hB, ← hB'] at hcl
        rw [← hB] at ok2
        obtain ⟨ok2a, ok2b⟩ := ok2
        have hid : (recD i x).id = cId i := rfl
        have hxe : (⟨false, x.net, x.claim, x.granted, x.credited⟩ : DealD) = x := by rw [← hb]
        simp +contextual only [go_sem, ↓reduceIte, Nat.reduceEqDiff, Nat.reduceAdd, Nat.reduceLeDiff, Nat.reduceLT, reduceCtorEq, k9, ← hA, ← hB, lt_dec hlt, hx, hw, hsk, hb, wc, hnt, h5, hi10, h25, ok2a, ok2b, hid, hcl, hxe, dk16, and_self, bne_self_eq_false, List.length_map, List.getElem?_map, Option.map_some, Int.natCast_nonneg, Int.toNat_natCast]
        refine ⟨rfl, pre ++ [x], by rw [hpre]; simp, .back rfl ?_⟩
        simp +contextual only [go_sem, ↓reduceIte, Nat.reduceEqDiff, Nat.reduceAdd, Nat.reduceLeDiff, Nat.reduceLT, reduceCtorEq, List.length_map, e2, ← hB', ← hA]
end Go.Proofs.Ytalhbhbkdfmhgaa
