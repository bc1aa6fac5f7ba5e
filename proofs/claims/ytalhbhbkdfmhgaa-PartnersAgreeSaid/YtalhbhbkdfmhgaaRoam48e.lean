/- What a pair has. -/
import Derived.Test.YtalhbhbkdfmhgaaRoam48d
namespace Go.Proofs.Ytalhbhbkdfmhgaa
set_option linter.all false
open Go.Idl
set_option maxHeartbeats 4000000
set_option maxRecDepth 100000
attribute [local go_sem] agPty agCdr agDis eqDis agDir agObj eqItm Try.underlying3 Try.underlying5 Try.underlying9 Try.underlying4
def pairB (a b : ByteArray) (c : CdrD) : Bool := (decide (c.operator = a) && decide (c.provider = b)) || (decide (c.operator = b) && decide (c.provider = a))
abbrev SPair : List V → Option V := FT fun (t : CdrD × ByteArray × ByteArray × Unit) => some (pairB t.2.1 t.2.2.1 t.1)
theorem con48 {Φ : Specs} (hg : Idl.Good Try.prog Φ) : Contract Try.prog 48 SPair := by
  refine conT hg k48 ic48 (by decide) fun C t r h => ?_
  obtain ⟨c, a, b, u⟩ := t
  cases h
  simp +contextual only [go_sem, ↓reduceIte, Nat.reduceEqDiff, Nat.reduceAdd, Nat.reduceLeDiff, Nat.reduceLT, reduceCtorEq, c48, k48]
  rfl
def pairD (cs : List CdrD) (a b : ByteArray) (d : Disp) : Bool := cs.any fun c => pairB a b c && decide (c.id = d.cdr)
def pairDs (p : PartyD) (a b : ByteArray) : List Disp := p.disputes.filter (pairD p.cdrs a b)
def knows (m : List (ByteArray × Bool)) (cs : List CdrD) (a b : ByteArray) : Prop := ∀ k, lookM m k = if (cs.any fun c => pairB a b c && decide (c.id = k)) = true then some true else none
theorem knows_nil (a b : ByteArray) : knows [] [] a b := fun _ => rfl
theorem knows_put {m : List (ByteArray × Bool)} {cs : List CdrD} {a b : ByteArray} {c : CdrD} (h : knows m cs a b) (hc : pairB a b c = true) : knows (putM m c.id true) (cs ++ [c]) a b := by
  intro k
  rw [lookM_put, h k, List.any_append, List.any_cons, List.any_nil, hc, Bool.true_and, Bool.or_false]
  by_cases e : k = c.id
  · subst e; simp
  · have e' : ¬ c.id = k := fun h => e h.symm
    simp [e, e']
theorem knows_skip {m : List (ByteArray × Bool)} {cs : List CdrD} {a b : ByteArray} {c : CdrD} (h : knows m cs a b) (hc : pairB a b c = false) : knows m (cs ++ [c]) a b := by
  intro k
  rw [h k, List.any_append, List.any_cons, List.any_nil, hc, Bool.false_and, Bool.or_false, Bool.or_false]
theorem low_bools {κ : Type} (n : Nat) (m : List (κ × Bool)) : (valsM m).all (V.low n) = true := by
  simp only [valsM, List.all_map, List.all_eq_true]
  intro x _
  rfl
abbrev SPDs : List V → Option V := FT fun (t : PartyD × ByteArray × ByteArray × Unit) => if t.1.cdrs.length ≤ 10000 ∧ t.1.disputes.length ≤ 10000 then some (pairDs t.1 t.2.1 t.2.2.1) else none
theorem con29 {Φ : Specs} (hg : Idl.Good Try.prog Φ) (h48 : Φ 48 = some SPair) : Contract Try.prog 29 SPDs := by
  refine conT hg k29 ic29 (by decide) fun C t r h => ?_
  obtain ⟨p, a, b, u⟩ := t
  dsimp only at h
  split at h
  · rename_i hl
    obtain ⟨h1, h2⟩ := hl
    cases h
    simp +contextual only [go_sem, ↓reduceIte, Nat.reduceEqDiff, Nat.reduceAdd, Nat.reduceLeDiff, Nat.reduceLT, reduceCtorEq, c29, k29, List.length_map, Option.map_none]
    refine TriI.loopL hg k29 p.cdrs (fun i (m : List (ByteArray × Bool)) => ⟨slotsL [(1, .sc (.string a)), (2, .sc (.string b)), (3, .ref 0 0 0), (7, .mapr 1), (15, Cod.enc p.cdrs), (16, .sc (.int .i64 p.cdrs.length)), (17, .sc (.int .i64 i))],
        objsL [.live 7 [Cod.enc p] true, .ext (.map (keysM m) (valsM m))], 2⟩)
      (fun xs m => ∃ pre, p.cdrs = pre ++ xs ∧ knows m pre a b) [] (.back rfl ?_) ⟨[], rfl, knows_nil a b⟩ ?_ ?_
    · simp +contextual only [go_sem, ↓reduceIte, Nat.reduceEqDiff, Nat.reduceAdd, Nat.reduceLeDiff, Nat.reduceLT, reduceCtorEq, List.length_map]
      exact ⟨rfl, rfl, rfl⟩
    · rintro m ⟨pre, hp, hk⟩
      rw [List.append_nil] at hp
      subst hp
      simp +contextual only [go_sem, ↓reduceIte, Nat.reduceEqDiff, Nat.reduceAdd, Nat.reduceLeDiff, Nat.reduceLT, reduceCtorEq, k29, Int.lt_irrefl, decide_false, List.length_map]
      refine TriI.loopL hg k29 p.disputes (fun i (acc : List Disp) => ⟨slotsL [(3, .ref 0 0 0), (7, .mapr 1), (10, .own 2 0 acc.length), (30, Cod.enc p.disputes), (31, .sc (.int .i64 p.disputes.length)), (32, .sc (.int .i64 i))],
          objsL [.live 7 [Cod.enc p] true, .ext (.map (keysM m) (valsM m)), .live 6 (acc.map Cod.enc) true], 3⟩)
        (fun xs acc => pairDs p a b = acc ++ xs.filter (pairD p.cdrs a b) ∧ acc.length + xs.length ≤ 10000) [] (.ren [some 0, some 1, none] rfl rfl 2 ?_) ⟨rfl, by simpa using h2⟩ ?_ ?_
      · simp +contextual only [go_sem, ↓reduceIte, Nat.reduceEqDiff, Nat.reduceAdd, Nat.reduceLeDiff, Nat.reduceLT, reduceCtorEq, List.length_map, low_bools, List.map_nil, List.length_nil]
        rfl
      · rintro acc ⟨g1, g2⟩
        have hT : (acc.map Cod.enc).take acc.length = acc.map Cod.enc := List.take_of_length_le (by simp)
        rw [List.filter_nil, List.append_nil] at g1
        simp +contextual only [go_sem, ↓reduceIte, Nat.reduceEqDiff, Nat.reduceAdd, Nat.reduceLeDiff, Nat.reduceLT, reduceCtorEq, k29, Int.lt_irrefl, decide_false, List.length_map, Nat.zero_add, Nat.le_refl, isF_diss, hT, decL_enc Cod.dec_enc, true_and, and_true]
        exact g1.symm
      · intro i acc x xs hdr hlt hx hinv
        obtain ⟨g1, g2⟩ := hinv
        have hw := wrap_nat hlt (by omega)
        have hkx := hk x.cdr
        rw [List.length_cons] at g2
        have b1 : (acc.length + 1) * 64 ≤ 68719476736 := by omega
        have b2 : acc.length + 1 ≤ 4294967296 := by omega
        cases hq : pairD p.cdrs a b x with
        | true =>
          have hkx' : lookM m x.cdr = some true := hkx.trans (if_pos hq)
          rw [List.filter_cons_of_pos hq] at g1
          simp +contextual only [go_sem, ↓reduceIte, Nat.reduceEqDiff, Nat.reduceAdd, Nat.reduceLeDiff, Nat.reduceLT, reduceCtorEq, k29, lt_dec hlt, hx, hw, hkx', b1, b2, okE, List.length_map, List.getElem?_map, Option.map_some, Int.natCast_nonneg, Int.toNat_natCast, List.drop_zero, Nat.zero_add, true_and, and_true]
          refine ⟨acc ++ [x], ⟨by rw [g1]; simp, by simp; omega⟩, .ren [some 0, some 1, some 6] rfl rfl 2 ?_⟩
          simp +contextual only [go_sem, ↓reduceIte, Nat.reduceEqDiff, Nat.reduceAdd, Nat.reduceLeDiff, Nat.reduceLT, reduceCtorEq, low_bools, low_diss, List.map_append, List.map_cons, List.map_nil, List.length_append, List.length_cons, List.length_nil, List.all_append, Nat.zero_add]
        | false =>
          have hkx' : lookM m x.cdr = none := hkx.trans (if_neg (fun e => by rw [show pairD p.cdrs a b x = true from e] at hq; cases hq))
          rw [List.filter_cons_of_neg (by simp [hq])] at g1
          simp +contextual only [go_sem, ↓reduceIte, Nat.reduceEqDiff, Nat.reduceAdd, Nat.reduceLeDiff, Nat.reduceLT, reduceCtorEq, k29, lt_dec hlt, hx, hw, hkx', b1, b2, okE, List.length_map, List.getElem?_map, Option.map_some, Int.natCast_nonneg, Int.toNat_natCast, List.drop_zero, Nat.zero_add, true_and, and_true]
          refine ⟨acc, ⟨g1, by omega⟩, .back rfl ?_⟩
          simp +contextual only [go_sem, ↓reduceIte, Nat.reduceEqDiff, Nat.reduceAdd, Nat.reduceLeDiff, Nat.reduceLT, reduceCtorEq, low_bools, low_diss]
    · rintro i m x xs hdr hlt hx ⟨pre, hp, hk⟩
      have hw := wrap_nat hlt (by omega)
      simp +contextual only [go_sem, ↓reduceIte, Nat.reduceEqDiff, Nat.reduceAdd, Nat.reduceLeDiff, Nat.reduceLT, reduceCtorEq, k29, lt_dec hlt, hx, hw, h48, List.length_map, List.getElem?_map, Option.map_some, Int.natCast_nonneg, Int.toNat_natCast]
      refine ⟨fun hq => ⟨putM m x.id true, ⟨pre ++ [x], by rw [hp]; simp, knows_put hk hq⟩, .back rfl ?_⟩, fun hq => ⟨m, ⟨pre ++ [x], by rw [hp]; simp, knows_skip hk hq⟩, .back rfl ?_⟩⟩
      · simp +contextual only [go_sem, ↓reduceIte, Nat.reduceEqDiff, Nat.reduceAdd, Nat.reduceLeDiff, Nat.reduceLT, reduceCtorEq, low_bools, low_cdrs, low_diss]
      · simp +contextual only [go_sem, ↓reduceIte, Nat.reduceEqDiff, Nat.reduceAdd, Nat.reduceLeDiff, Nat.reduceLT, reduceCtorEq, low_bools, low_cdrs, low_diss]
  · cases h
end Go.Proofs.Ytalhbhbkdfmhgaa
