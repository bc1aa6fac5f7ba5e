/- Equal directories and parties. -/
import Derived.Test.YtikmficjcbkhcaaRoam48c
import Derived.Test.YtikmficjcbkhcaaDir45k
namespace Go.Proofs.Ytikmficjcbkhcaa
set_option linter.all false
open Go.Idl
set_option maxHeartbeats 4000000
set_option maxRecDepth 100000
attribute [local go_sem] agPty agCdr eqDis agDir agObj eqItm Try.underlying3 Try.underlying5 Try.underlying9 Try.underlying4
abbrev SSmD8 : List V → Option V := FT fun (t : DirD × DirD × Unit) => if smallD t.1 = true ∧ smallD t.2.1 = true then some (sameD t.1 t.2.1) else none
theorem con29 {Φ : Specs} (hg : Idl.Good Try.prog Φ) : Contract Try.prog 29 SSmD8 := by
  refine conT hg k29 ic29 (by decide) fun C t r h => ?_
  obtain ⟨a, b, u⟩ := t
  dsimp only at h
  split at h
  · rename_i hl
    obtain ⟨hla, hlb⟩ := hl
    simp only [smallD, Bool.and_eq_true, decide_eq_true_eq] at hla hlb
    obtain ⟨a1, a2⟩ := hla
    obtain ⟨b1, b2⟩ := hlb
    cases h
    simp +contextual only [go_sem, ↓reduceIte, Nat.reduceEqDiff, Nat.reduceAdd, Nat.reduceLeDiff, Nat.reduceLT, reduceCtorEq, c29, k29, List.length_map]
    refine ⟨fun h1 => ?_, fun h1 => ?_⟩
    · cases hc : sameD a b with
      | false => rfl
      | true => have := sameD_iff.1 hc; subst this; simp at h1
    · simp only [Bool.or_eq_false_iff, bne_eq_false_iff_eq, Bool.not_eq_false', decide_eq_true_eq, Int.ofNat_inj] at h1
      obtain ⟨⟨⟨e1, e2⟩, e3⟩, e4⟩ := h1
      have e3' : a.objects.length = b.objects.length := by omega
      have e4' : a.marks.length = b.marks.length := by omega
      have hec : sameD a b = (eqI a.marks b.marks && sameL a.objects b.objects) := by simp [sameD, e1, e2]
      rw [hec]
      have hz : (a.marks.zip b.marks).length = a.marks.length := by rw [List.length_zip]; omega
      have hz1 : (a.marks.zip b.marks).map (·.1) = a.marks := List.map_fst_zip (by omega)
      have hz2 : (a.marks.zip b.marks).map (·.2) = b.marks := List.map_snd_zip (by omega)
      refine TriI.loopL hg k29 (a.marks.zip b.marks) (fun i (_ : Unit) => ⟨slotsL [(2, .ref 0 0 0), (3, .ref 1 0 0), (5, .sc (.int .i64 i))], objsL [.live 4 [Cod.enc a] true, .live 4 [Cod.enc b] true], 2⟩) (fun xs _ => eqI (xs.map (·.1)) (xs.map (·.2)) = eqI a.marks b.marks) () (.back rfl ?_) (by rw [hz1, hz2]) ?_ ?_
      · simp +contextual only [go_sem, ↓reduceIte, Nat.reduceEqDiff, Nat.reduceAdd, Nat.reduceLeDiff, Nat.reduceLT, reduceCtorEq]
        trivial
      · intro _ hinv
        rw [hz]
        have hinv' : eqI a.marks b.marks = true := hinv.symm
        rw [hinv', Bool.true_and]
        simp +contextual only [go_sem, ↓reduceIte, Nat.reduceEqDiff, Nat.reduceAdd, Nat.reduceLeDiff, Nat.reduceLT, reduceCtorEq, k29, Int.lt_irrefl, decide_false, List.length_map]
        have hy : (a.objects.zip b.objects).length = a.objects.length := by rw [List.length_zip]; omega
        have hy1 : (a.objects.zip b.objects).map (·.1) = a.objects := List.map_fst_zip (by omega)
        have hy2 : (a.objects.zip b.objects).map (·.2) = b.objects := List.map_snd_zip (by omega)
        refine TriI.loopL hg k29 (a.objects.zip b.objects) (fun i (_ : Unit) => ⟨slotsL [(2, .ref 0 0 0), (3, .ref 1 0 0), (6, .sc (.int .i64 i))], objsL [.live 4 [Cod.enc a] true, .live 4 [Cod.enc b] true], 2⟩) (fun xs _ => sameL (xs.map (·.1)) (xs.map (·.2)) = sameL a.objects b.objects) () (.back rfl ?_) (by rw [hy1, hy2]) ?_ ?_
        · simp +contextual only [go_sem, ↓reduceIte, Nat.reduceEqDiff, Nat.reduceAdd, Nat.reduceLeDiff, Nat.reduceLT, reduceCtorEq]
          trivial
        · intro _ hinv
          rw [hy]
          simp +contextual only [go_sem, ↓reduceIte, Nat.reduceEqDiff, Nat.reduceAdd, Nat.reduceLeDiff, Nat.reduceLT, reduceCtorEq, k29, Int.lt_irrefl, decide_false, List.length_map]
          exact hinv
        · intro i _ x xs hdr hlt hx hinv
          rw [hy] at hlt
          have hw := wrap_nat hlt (by omega)
          obtain ⟨hx1, hx2⟩ := List.getElem?_zip_eq_some.1 hx
          have hn : sameL (x.1 :: xs.map (·.1)) (x.2 :: xs.map (·.2)) = (sameO x.1 x.2 && sameL (xs.map (·.1)) (xs.map (·.2))) := rfl
          rw [List.map_cons, List.map_cons, hn] at hinv
          cases q1 : (x.1.kind != x.2.kind || !decide (x.1.id = x.2.id) || !decide (x.1.owner = x.2.owner) || x.1.version != x.2.version) with
          | true =>
            simp +contextual only [go_sem, ↓reduceIte, Nat.reduceEqDiff, Nat.reduceAdd, Nat.reduceLeDiff, Nat.reduceLT, reduceCtorEq, k29, q1, lt_dec hlt, hx1, hx2, hw, List.length_map, List.getElem?_map, Option.map_some, Int.natCast_nonneg, Int.toNat_natCast]
            have hs : sameO x.1 x.2 = false := by
              cases hso : sameO x.1 x.2 with
              | false => rfl
              | true => rw [sameO_iff.1 hso] at q1; simp at q1
            rw [hs, Bool.false_and] at hinv
            exact ⟨rfl, hinv⟩
          | false =>
            cases q2 : (x.1.deleted != x.2.deleted) with
            | true =>
              simp +contextual only [go_sem, ↓reduceIte, Nat.reduceEqDiff, Nat.reduceAdd, Nat.reduceLeDiff, Nat.reduceLT, reduceCtorEq, k29, q1, q2, lt_dec hlt, hx1, hx2, hw, List.length_map, List.getElem?_map, Option.map_some, Int.natCast_nonneg, Int.toNat_natCast]
              have hs : sameO x.1 x.2 = false := by
                cases hso : sameO x.1 x.2 with
                | false => rfl
                | true => rw [sameO_iff.1 hso] at q2; simp at q2
              rw [hs, Bool.false_and] at hinv
              exact ⟨rfl, hinv⟩
            | false =>
              simp +contextual only [go_sem, ↓reduceIte, Nat.reduceEqDiff, Nat.reduceAdd, Nat.reduceLeDiff, Nat.reduceLT, reduceCtorEq, k29, q1, q2, lt_dec hlt, hx1, hx2, hw, List.length_map, List.getElem?_map, Option.map_some, Int.natCast_nonneg, Int.toNat_natCast]
              refine ⟨rfl, ?_⟩
              refine stepI_bytesF Try.underlying41 Try.underlying5 Try.underlying9 rfl (bytV_enc x.1.data) (conv_noneF rfl) ?_
              simp +contextual only [go_sem, ↓reduceIte, Nat.reduceEqDiff, Nat.reduceAdd, Nat.reduceLeDiff, Nat.reduceLT, reduceCtorEq, k29]
              refine stepI_bytesF Try.underlying41 Try.underlying5 Try.underlying9 rfl (bytV_enc x.2.data) (conv_noneF rfl) ?_
              simp +contextual only [go_sem, ↓reduceIte, Nat.reduceEqDiff, Nat.reduceAdd, Nat.reduceLeDiff, Nat.reduceLT, reduceCtorEq, k29, hw]
              have hso : sameO x.1 x.2 = decide (strOf (x.1.data.map (·.1)) = strOf (x.2.data.map (·.1))) := by
                simp only [Bool.or_eq_false_iff, bne_eq_false_iff_eq, Bool.not_eq_false', decide_eq_true_eq] at q1 q2
                obtain ⟨⟨⟨p1, p2⟩, p3⟩, p4⟩ := q1
                rw [sameO, p1, p2, p3, p4, q2]
                simp only [beq_self_eq_true, decide_true, Bool.true_and]
                rw [decide_eq_decide]
                exact strOf_inj.symm
              refine ⟨fun h => ?_, fun h => ⟨(), ?_, .back rfl ?_⟩⟩
              · rw [hso] at hinv
                have h' : decide (strOf (x.1.data.map (·.1)) = strOf (x.2.data.map (·.1))) = false := by simpa using h
                rw [h', Bool.false_and] at hinv
                exact hinv
              · have h' : decide (strOf (x.1.data.map (·.1)) = strOf (x.2.data.map (·.1))) = true := by simpa using h
                rw [hso, h', Bool.true_and] at hinv
                exact hinv
              · simp +contextual only [go_sem, ↓reduceIte, Nat.reduceEqDiff, Nat.reduceAdd, Nat.reduceLeDiff, Nat.reduceLT, reduceCtorEq]
      · intro i _ x xs hdr hlt hx hinv
        rw [hz] at hlt
        have hw := wrap_nat hlt (by omega)
        obtain ⟨hx1, hx2⟩ := List.getElem?_zip_eq_some.1 hx
        have hn : eqI (x.1 :: xs.map (·.1)) (x.2 :: xs.map (·.2)) = ((x.1 == x.2) && eqI (xs.map (·.1)) (xs.map (·.2))) := rfl
        rw [List.map_cons, List.map_cons, hn] at hinv
        simp +contextual only [go_sem, ↓reduceIte, Nat.reduceEqDiff, Nat.reduceAdd, Nat.reduceLeDiff, Nat.reduceLT, reduceCtorEq, k29, lt_dec hlt, hx1, hx2, hw, List.length_map, List.getElem?_map, Option.map_some, Int.natCast_nonneg, Int.toNat_natCast]
        refine ⟨rfl, fun h => ?_, fun h => ⟨(), ?_, .back rfl ?_⟩⟩
        · have h' : (x.1 == x.2) = false := by simpa using h
          rw [← hinv, h', Bool.false_and, Bool.false_and]
        · have h' : (x.1 == x.2) = true := by simpa using h
          dsimp only
          rw [← hinv, h', Bool.true_and]
        · simp +contextual only [go_sem, ↓reduceIte, Nat.reduceEqDiff, Nat.reduceAdd, Nat.reduceLeDiff, Nat.reduceLT, reduceCtorEq]
  · cases h
def sameP (a b : PartyD) : Bool := decide (a.name = b.name) && eqLs eqC a.cdrs b.cdrs && eqLs eqDs a.disputes b.disputes && sameD a.dir b.dir
theorem sameP_iff {a b : PartyD} : sameP a b = true ↔ a = b := by
  obtain ⟨a1, a2, a3, a4⟩ := a
  obtain ⟨b1, b2, b3, b4⟩ := b
  simp only [sameP, Bool.and_eq_true, decide_eq_true_eq, eqLs_iff eqC_iff, eqLs_iff eqDs_iff, sameD_iff, PartyD.mk.injEq]
  constructor
  · rintro ⟨⟨⟨h1, h2⟩, h3⟩, h4⟩
    exact ⟨h1, h4, h2, h3⟩
  · rintro ⟨h1, h4, h2, h3⟩
    exact ⟨⟨⟨h1, h2⟩, h3⟩, h4⟩
def okIt (l : List CdrD) : Bool := l.all fun c => decide (c.items.length ≤ 1000000)
theorem okIt_mem {l : List CdrD} (h : okIt l = true) {c : CdrD} (hc : c ∈ l) : c.items.length ≤ 1000000 := by
  rw [okIt, List.all_eq_true] at h
  simpa using h c hc
def okS (p : PartyD) : Bool := okP p && okIt p.cdrs
theorem okS_iff {p : PartyD} : okS p = true ↔ OkP p ∧ okIt p.cdrs = true := by rw [okS, Bool.and_eq_true, okP_iff]
abbrev SSmP : List V → Option V := FT fun (t : PartyD × PartyD × Unit) => if okS t.1 = true ∧ okS t.2.1 = true then some (sameP t.1 t.2.1) else none
theorem con12 {Φ : Specs} (hg : Idl.Good Try.prog Φ) (h30 : Φ 30 = some SEqC) (h29 : Φ 29 = some SSmD8) : Contract Try.prog 12 SSmP := by
  refine conT hg k12 ic12 (by decide) fun C t r h => ?_
  obtain ⟨a, b, u⟩ := t
  dsimp only at h
  split at h
  · rename_i hl
    obtain ⟨hla, hlb⟩ := hl
    obtain ⟨ha, hai⟩ := okS_iff.1 hla
    obtain ⟨hb, hbi⟩ := okS_iff.1 hlb
    have sa : smallD a.dir = true := by simp [smallD, ha.o, ha.m]
    have sb : smallD b.dir = true := by simp [smallD, hb.o, hb.m]
    have a1 := ha.c
    have a2 := ha.d
    have b1 := hb.c
    have b2 := hb.d
    cases h
    have hbad : ∀ {q : Bool}, (sameP a b = true → q = true → False) → q = true → false = sameP a b := by
      intro q h1 h2
      cases hc : sameP a b with
      | false => rfl
      | true => exact absurd h2 (fun e => h1 hc e)
    cases q1 : (!decide (a.name = b.name) || (a.cdrs.length : Int) != b.cdrs.length || (a.disputes.length : Int) != b.disputes.length) with
    | true =>
      simp +contextual only [go_sem, ↓reduceIte, Nat.reduceEqDiff, Nat.reduceAdd, Nat.reduceLeDiff, Nat.reduceLT, reduceCtorEq, c12, k12, List.length_map, q1]
      refine hbad (fun h e => ?_) q1
      have := sameP_iff.1 h; subst this; simp at e
    | false =>
      cases q2 : sameD a.dir b.dir with
      | false =>
        simp +contextual only [go_sem, ↓reduceIte, Nat.reduceEqDiff, Nat.reduceAdd, Nat.reduceLeDiff, Nat.reduceLT, reduceCtorEq, c12, k12, h29, List.length_map, q1, q2, sa, sb, and_self]
        simp [sameP, q2]
      | true =>
        simp +contextual only [go_sem, ↓reduceIte, Nat.reduceEqDiff, Nat.reduceAdd, Nat.reduceLeDiff, Nat.reduceLT, reduceCtorEq, c12, k12, h29, List.length_map, q1, q2, sa, sb, and_self]
        simp only [Bool.or_eq_false_iff, bne_eq_false_iff_eq, Bool.not_eq_false', decide_eq_true_eq, Int.ofNat_inj] at q1
        obtain ⟨⟨e1, e2⟩, e3⟩ := q1
        have hec : sameP a b = (eqLs eqC a.cdrs b.cdrs && eqLs eqDs a.disputes b.disputes) := by simp [sameP, e1, q2]
        rw [hec]
        have hz : (a.cdrs.zip b.cdrs).length = a.cdrs.length := by rw [List.length_zip]; omega
        have hz1 : (a.cdrs.zip b.cdrs).map (·.1) = a.cdrs := List.map_fst_zip (by omega)
        have hz2 : (a.cdrs.zip b.cdrs).map (·.2) = b.cdrs := List.map_snd_zip (by omega)
        refine TriI.loopL hg k12 (a.cdrs.zip b.cdrs) (fun i (_ : Unit) => ⟨slotsL [(2, .ref 0 0 0), (3, .ref 1 0 0), (5, .sc (.int .i64 i))], objsL [.live 7 [Cod.enc a] true, .live 7 [Cod.enc b] true], 2⟩) (fun xs _ => eqLs eqC (xs.map (·.1)) (xs.map (·.2)) = eqLs eqC a.cdrs b.cdrs) () (.back rfl ?_) (by rw [hz1, hz2]) ?_ ?_
        · simp +contextual only [go_sem, ↓reduceIte, Nat.reduceEqDiff, Nat.reduceAdd, Nat.reduceLeDiff, Nat.reduceLT, reduceCtorEq]
          trivial
        · intro _ hinv
          rw [hz]
          have hinv' : eqLs eqC a.cdrs b.cdrs = true := hinv.symm
          rw [hinv', Bool.true_and]
          simp +contextual only [go_sem, ↓reduceIte, Nat.reduceEqDiff, Nat.reduceAdd, Nat.reduceLeDiff, Nat.reduceLT, reduceCtorEq, k12, Int.lt_irrefl, decide_false, List.length_map]
          have hy : (a.disputes.zip b.disputes).length = a.disputes.length := by rw [List.length_zip]; omega
          have hy1 : (a.disputes.zip b.disputes).map (·.1) = a.disputes := List.map_fst_zip (by omega)
          have hy2 : (a.disputes.zip b.disputes).map (·.2) = b.disputes := List.map_snd_zip (by omega)
          refine TriI.loopL hg k12 (a.disputes.zip b.disputes) (fun i (_ : Unit) => ⟨slotsL [(2, .ref 0 0 0), (3, .ref 1 0 0), (6, .sc (.int .i64 i))], objsL [.live 7 [Cod.enc a] true, .live 7 [Cod.enc b] true], 2⟩) (fun xs _ => eqLs eqDs (xs.map (·.1)) (xs.map (·.2)) = eqLs eqDs a.disputes b.disputes) () (.back rfl ?_) (by rw [hy1, hy2]) ?_ ?_
          · simp +contextual only [go_sem, ↓reduceIte, Nat.reduceEqDiff, Nat.reduceAdd, Nat.reduceLeDiff, Nat.reduceLT, reduceCtorEq]
            trivial
          · intro _ hinv
            rw [hy]
            simp +contextual only [go_sem, ↓reduceIte, Nat.reduceEqDiff, Nat.reduceAdd, Nat.reduceLeDiff, Nat.reduceLT, reduceCtorEq, k12, Int.lt_irrefl, decide_false, List.length_map]
            exact hinv
          · intro i _ x xs hdr hlt hx hinv
            rw [hy] at hlt
            have hw := wrap_nat hlt (by omega)
            obtain ⟨hx1, hx2⟩ := List.getElem?_zip_eq_some.1 hx
            have hn : eqLs eqDs (x.1 :: xs.map (·.1)) (x.2 :: xs.map (·.2)) = (eqDs x.1 x.2 && eqLs eqDs (xs.map (·.1)) (xs.map (·.2))) := rfl
            rw [List.map_cons, List.map_cons, hn] at hinv
            simp +contextual only [go_sem, ↓reduceIte, Nat.reduceEqDiff, Nat.reduceAdd, Nat.reduceLeDiff, Nat.reduceLT, reduceCtorEq, k12, lt_dec hlt, hx1, hx2, hw, List.length_map, List.getElem?_map, Option.map_some, Int.natCast_nonneg, Int.toNat_natCast]
            refine ⟨rfl, fun h => ?_, fun h => ⟨(), ?_, .back rfl ?_⟩⟩
            · have h0 : (!eqDs x.1 x.2) = true := h
              have h' : eqDs x.1 x.2 = false := by simpa using h0
              rw [← hinv, h', Bool.false_and]
            · have h0 : (!eqDs x.1 x.2) = false := h
              have h' : eqDs x.1 x.2 = true := by simpa using h0
              dsimp only
              rw [← hinv, h', Bool.true_and]
            · simp +contextual only [go_sem, ↓reduceIte, Nat.reduceEqDiff, Nat.reduceAdd, Nat.reduceLeDiff, Nat.reduceLT, reduceCtorEq]
        · intro i _ x xs hdr hlt hx hinv
          rw [hz] at hlt
          have hw := wrap_nat hlt (by omega)
          obtain ⟨hx1, hx2⟩ := List.getElem?_zip_eq_some.1 hx
          have l1 := okIt_mem hai (List.mem_of_getElem? hx1)
          have l2 := okIt_mem hbi (List.mem_of_getElem? hx2)
          have hn : eqLs eqC (x.1 :: xs.map (·.1)) (x.2 :: xs.map (·.2)) = (eqC x.1 x.2 && eqLs eqC (xs.map (·.1)) (xs.map (·.2))) := rfl
          rw [List.map_cons, List.map_cons, hn] at hinv
          simp +contextual only [go_sem, ↓reduceIte, Nat.reduceEqDiff, Nat.reduceAdd, Nat.reduceLeDiff, Nat.reduceLT, reduceCtorEq, k12, h30, l1, l2, and_self, lt_dec hlt, hx1, hx2, hw, List.length_map, List.getElem?_map, Option.map_some, Int.natCast_nonneg, Int.toNat_natCast]
          refine ⟨rfl, fun h => ?_, fun h => ⟨(), ?_, .back rfl ?_⟩⟩
          · have h' : eqC x.1 x.2 = false := by simpa using h
            rw [← hinv, h', Bool.false_and, Bool.false_and]
          · have h' : eqC x.1 x.2 = true := by simpa using h
            dsimp only
            rw [← hinv, h', Bool.true_and]
          · simp +contextual only [go_sem, ↓reduceIte, Nat.reduceEqDiff, Nat.reduceAdd, Nat.reduceLeDiff, Nat.reduceLT, reduceCtorEq]
  · cases h
end Go.Proofs.Ytikmficjcbkhcaa
