/- Parties: their disputes; new ones. -/
import Derived.Test.YtalhbhbkdfmhgaaRoam48a
namespace Go.Proofs.Ytalhbhbkdfmhgaa
set_option linter.all false
open Go.Idl
set_option maxHeartbeats 4000000
set_option maxRecDepth 100000
attribute [local go_sem] agPty agCdr agDis eqDis agDir agObj Try.underlying3 Try.underlying5 Try.underlying9 Try.underlying4
abbrev SDss : List V → Option V := FT fun (t : PartyD × Unit) => if t.1.cdrs.length ≤ 1000000 ∧ t.1.disputes.length ≤ 1000000 then some (dissV t.1) else none
theorem con34 {Φ : Specs} (hg : Idl.Good Try.prog Φ) (h53 : Φ 53 = some S53) (h16 : Φ 16 = some SRcd) : Contract Try.prog 34 SDss := by
  refine conT hg k34 ic34 (by decide) fun C t r h => ?_
  obtain ⟨p, u⟩ := t
  dsimp only at h
  split at h
  · rename_i hl
    obtain ⟨hc, hl⟩ := hl
    cases h
    unfold dissV
    cases e1 : decide ((p.disputes.length : Int) > 256) with
    | true => simp +contextual only [go_sem, ↓reduceIte, Nat.reduceEqDiff, Nat.reduceAdd, Nat.reduceLeDiff, Nat.reduceLT, reduceCtorEq, c34, k34, List.length_map, e1, cond_true]
    | false =>
      simp +contextual only [go_sem, ↓reduceIte, Nat.reduceEqDiff, Nat.reduceAdd, Nat.reduceLeDiff, Nat.reduceLT, reduceCtorEq, c34, k34, List.length_map, e1, cond_false]
      refine TriI.loopL hg k34 p.disputes (fun i (a : List Disp) => ⟨slotsL [(1, .ref 0 0 0), (3, .mapr 1), (17, Cod.enc p.disputes), (18, .sc (.int .i64 p.disputes.length)), (19, .sc (.int .i64 i))], objsL [.live 7 [Cod.enc p] true, .ext (.map (keysM (seenI Disp.cdr a)) (valsM (seenI Disp.cdr a)))], 2⟩)
        (fun xs a => p.disputes = a ++ xs ∧ disV p.cdrs a xs = disV p.cdrs [] p.disputes) [] (.back rfl ?_) ⟨rfl, rfl⟩ ?_ ?_
      · simp +contextual only [go_sem, ↓reduceIte, Nat.reduceEqDiff, Nat.reduceAdd, Nat.reduceLeDiff, Nat.reduceLT, reduceCtorEq, List.length_map]
        exact ⟨rfl, rfl, rfl⟩
      · intro a hinv
        simp +contextual only [go_sem, ↓reduceIte, Nat.reduceEqDiff, Nat.reduceAdd, Nat.reduceLeDiff, Nat.reduceLT, reduceCtorEq, k34, Int.lt_irrefl, decide_false]
        rw [← hinv.2]; cases a <;> rfl
      · intro i a x xs hdr hlt hx hinv
        obtain ⟨g1, g2⟩ := hinv
        have hw := wrap_nat hlt (by omega)
        rw [disV] at g2
        have hlk := look_seenI Disp.cdr a x.cdr
        cases h4 : validD x == 0 with
        | false =>
          have h4' : (validD x != 0) = true := by simpa using h4
          rw [h4, Bool.not_false, cond_true] at g2
          simp +contextual only [go_sem, ↓reduceIte, Nat.reduceEqDiff, Nat.reduceAdd, Nat.reduceLeDiff, Nat.reduceLT, reduceCtorEq, k34, lt_dec hlt, hx, hw, h53, S53, h4', List.getElem?_map, Option.map_some, Int.natCast_nonneg, Int.toNat_natCast]
          exact g2
        | true =>
          have h4' : (validD x != 0) = false := by simpa using h4
          rw [h4, Bool.not_true, cond_false] at g2
          rcases idxI_get CdrD.id x.cdr p.cdrs 0 with ⟨q1, q2⟩ | ⟨j, y, _, q1, q2, q3⟩
          · rw [q2] at g2
            have hneg : decide ((-1 : Int) < 0) = true := rfl
            simp +contextual only [go_sem, ↓reduceIte, Nat.reduceEqDiff, Nat.reduceAdd, Nat.reduceLeDiff, Nat.reduceLT, reduceCtorEq, k34, lt_dec hlt, hx, hw, hc, h53, S53, h16, h4', q1, hneg, List.getElem?_map, Option.map_some, Int.natCast_nonneg, Int.toNat_natCast]
            exact g2
          · rw [q3] at g2
            dsimp only at g2
            rw [Nat.sub_zero] at q2
            have hjl : j < p.cdrs.length := (List.getElem?_eq_some_iff.1 q2).1
            have hneg : decide ((j : Int) < 0) = false := by simp
            have hjI : (j : Int) < (p.cdrs.length : Int) := by omega
            cases h5 : !decide (x.who = y.provider) with
            | true =>
              rw [h5, cond_true] at g2
              simp +contextual only [go_sem, ↓reduceIte, Nat.reduceEqDiff, Nat.reduceAdd, Nat.reduceLeDiff, Nat.reduceLT, reduceCtorEq, k34, lt_dec hlt, hx, hw, hc, h53, S53, h16, h4', q1, q2, hjl, hjI, hneg, h5, List.length_map, List.getElem?_map, Option.map_some, Int.natCast_nonneg, Int.toNat_natCast]
              exact ⟨rfl, g2⟩
            | false =>
              rw [h5, cond_false] at g2
              cases hh : hasI Disp.cdr a x.cdr with
              | true =>
                rw [hh, if_pos rfl] at hlk
                rw [hh, cond_true] at g2
                simp +contextual only [go_sem, ↓reduceIte, Nat.reduceEqDiff, Nat.reduceAdd, Nat.reduceLeDiff, Nat.reduceLT, reduceCtorEq, k34, lt_dec hlt, hx, hw, hc, h53, S53, h16, h4', q1, q2, hjl, hjI, hneg, h5, hlk, List.length_map, List.getElem?_map, Option.map_some, Int.natCast_nonneg, Int.toNat_natCast]
                exact ⟨rfl, g2⟩
              | false =>
                rw [hh, if_neg (by decide)] at hlk
                rw [hh, cond_false] at g2
                have hpm := put_seenI Disp.cdr hh
                simp +contextual only [go_sem, ↓reduceIte, Nat.reduceEqDiff, Nat.reduceAdd, Nat.reduceLeDiff, Nat.reduceLT, reduceCtorEq, k34, lt_dec hlt, hx, hw, hc, h53, S53, h16, h4', q1, q2, hjl, hjI, hneg, h5, hlk, hpm, List.length_map, List.getElem?_map, Option.map_some, Int.natCast_nonneg, Int.toNat_natCast]
                refine ⟨rfl, a ++ [x], ⟨by rw [g1]; simp, g2⟩, .back rfl ?_⟩
                simp +contextual only [go_sem, ↓reduceIte, Nat.reduceEqDiff, Nat.reduceAdd, Nat.reduceLeDiff, Nat.reduceLT, reduceCtorEq, low_seenI, low_cdrs, low_diss]
  · cases h
def okP (p : PartyD) : Bool := decide (p.cdrs.length ≤ 1000000) && decide (p.disputes.length ≤ 1000000) && decide (p.dir.objects.length ≤ 1000000) && decide (p.dir.marks.length ≤ 1000000) && okCur p.cdrs
structure OkP (p : PartyD) : Prop where
  c : p.cdrs.length ≤ 1000000
  d : p.disputes.length ≤ 1000000
  o : p.dir.objects.length ≤ 1000000
  m : p.dir.marks.length ≤ 1000000
  cur : okCur p.cdrs = true
theorem okP_iff {p : PartyD} : okP p = true ↔ OkP p := by
  simp only [okP, Bool.and_eq_true, decide_eq_true_eq]
  exact ⟨fun ⟨⟨⟨⟨a, b⟩, c⟩, d⟩, e⟩ => ⟨a, b, c, d, e⟩, fun h => ⟨⟨⟨⟨h.c, h.d⟩, h.o⟩, h.m⟩, h.cur⟩⟩
abbrev SVlP : List V → Option V := FT fun (t : PartyD × Unit) => if okP t.1 = true then some (validP t.1) else none
theorem validP_tree (p : PartyD) : ((!okName p.name) = true → 4 = validP p) ∧ ((!okName p.name) = false → ((validDir p.dir != 0) = true → validDir p.dir = validP p) ∧ ((validDir p.dir != 0) = false → ((!decide (p.dir.party = p.name)) = true → 1 = validP p) ∧
    ((!decide (p.dir.party = p.name)) = false → ((recsV p != 0) = true → recsV p = validP p) ∧ ((recsV p != 0) = false → dissV p = validP p)))) := by
  refine ⟨fun h1 => by rw [validP, h1, cond_true], fun h1 => ⟨fun h2 => ?_, fun h2 => ⟨fun h3 => ?_, fun h3 => ⟨fun h4 => ?_, fun h4 => ?_⟩⟩⟩⟩
  · rw [validP, h1, show (!(validDir p.dir == 0)) = true from h2]; rfl
  · rw [validP, h1, show (!(validDir p.dir == 0)) = false from h2, h3]; rfl
  · rw [validP, h1, show (!(validDir p.dir == 0)) = false from h2, h3, show (!(recsV p == 0)) = true from h4]; rfl
  · rw [validP, h1, show (!(validDir p.dir == 0)) = false from h2, h3, show (!(recsV p == 0)) = false from h4]; rfl
theorem con14 {Φ : Specs} (hg : Idl.Good Try.prog Φ) (h12 : Φ 12 = some F12) (h32 : Φ 32 = some SVal) (h33 : Φ 33 = some SRcs) (h34 : Φ 34 = some SDss) : Contract Try.prog 14 SVlP := by
  refine conT hg k14 ic14 (by decide) fun C t r h => ?_
  obtain ⟨p, u⟩ := t
  dsimp only at h
  split at h
  · rename_i hl
    have hp := okP_iff.1 hl
    cases h
    have q1 := hp.c
    have q2 := hp.d
    have q3 := hp.o
    have q4 := hp.m
    have q5 := hp.cur
    simp +contextual only [go_sem, ↓reduceIte, Nat.reduceEqDiff, Nat.reduceAdd, Nat.reduceLeDiff, Nat.reduceLT, reduceCtorEq, c14, k14, h12, F12, h32, h33, h34, q1, q2, q3, q4, q5, and_self]
    exact validP_tree p
  · cases h
def newP (n : ByteArray) : PartyD × Int := bif okName n then (⟨n, ⟨n, [], [], 1⟩, [], []⟩, 0) else (⟨⟨#[]⟩, ⟨⟨#[]⟩, [], [], 0⟩, [], []⟩, 4)
abbrev SNewP : List V → Option V := FT fun (t : ByteArray × Unit) => some (newP t.1)
theorem con4 {Φ : Specs} (hg : Idl.Good Try.prog Φ) (h12 : Φ 12 = some F12) (h13 : Φ 13 = some SNewD) : Contract Try.prog 4 SNewP := by
  refine conT hg k4 ic4 (by decide) fun C t r h => ?_
  obtain ⟨s, u⟩ := t
  cases h
  cases hn : okName s with
  | true =>
    simp +contextual only [go_sem, ↓reduceIte, Nat.reduceEqDiff, Nat.reduceAdd, Nat.reduceLeDiff, Nat.reduceLT, reduceCtorEq, c4, k4, h12, F12, h13, hn, cond_true, List.map_nil]
    simp only [newP, hn, cond_true]
  | false =>
    simp +contextual only [go_sem, ↓reduceIte, Nat.reduceEqDiff, Nat.reduceAdd, Nat.reduceLeDiff, Nat.reduceLT, reduceCtorEq, c4, k4, h12, F12, h13, hn, cond_false, List.map_nil]
    simp only [newP, hn, cond_false]
end Go.Proofs.Ytalhbhbkdfmhgaa
