/- Parts of an exchange: what is known by name, what is missing. -/
import Derived.Test.YtalhbhbkdfmhgaaRoam48k
namespace Go.Proofs.Ytalhbhbkdfmhgaa
set_option linter.all false
open Go.Idl
set_option maxHeartbeats 8000000
set_option maxRecDepth 100000
attribute [local go_sem] agPty agCdr agDis eqDis agDir agObj eqItm Try.underlying3 Try.underlying5 Try.underlying9 Try.underlying4
structure PtrD where
instance : Cod PtrD where
  enc := fun _ => .any
  dec := fun v => match v with
    | .any => some ⟨⟩
    | _ => none
  sz := 1
  len := fun _ => rfl
  dec_enc := fun _ => rfl
  le := fun v a h => by
    split at h
    · exact .one rfl rfl (.refl _)
    · cases h
@[go_sem ↓] theorem encP_eq (a : PtrD) : Cod.enc a = .any := nd rfl
@[go_sem ↓] theorem decP_eq : (Cod.dec .any : Option PtrD) = some ⟨⟩ := nd rfl
abbrev SRcM : List V → Option V := FT fun (t : PartyD × Unit) => if t.1.cdrs.length ≤ 10000 ∧ (t.1.cdrs.map CdrD.id).Nodup then some ((⟨some (kvM CdrD.id t.1.cdrs)⟩ : KM ByteArray CdrD)) else none
theorem con40 {Φ : Specs} (hg : Idl.Good Try.prog Φ) : Contract Try.prog 40 SRcM := by
  refine conT hg k40 ic40 (by decide) fun C t r h => ?_
  obtain ⟨p, u⟩ := t
  dsimp only at h
  split at h
  · rename_i hl
    obtain ⟨hl, hn⟩ := hl
    cases h
    have c1 : (0 : Int) ≤ (p.cdrs.length : Int) := by omega
    simp +contextual only [go_sem, ↓reduceIte, Nat.reduceEqDiff, Nat.reduceAdd, Nat.reduceLeDiff, Nat.reduceLT, reduceCtorEq, c40, k40, c1, List.length_map]
    refine TriI.loopL hg k40 p.cdrs (fun i (l : List CdrD) => ⟨slotsL [(3, .mapr 1), (11, Cod.enc p.cdrs), (12, .sc (.int .i64 p.cdrs.length)), (13, .sc (.int .i64 i))],
        objsL [.live 7 [Cod.enc p] true, .ext (.map (keysM (kvM CdrD.id l)) (valsM (kvM CdrD.id l)))], 2⟩)
      (fun xs l => p.cdrs = l ++ xs) [] (.back rfl ?_) rfl ?_ ?_
    · simp +contextual only [go_sem, ↓reduceIte, Nat.reduceEqDiff, Nat.reduceAdd, Nat.reduceLeDiff, Nat.reduceLT, reduceCtorEq, List.length_map]
      exact ⟨rfl, rfl, rfl⟩
    · intro l hinv
      have hl' : l = p.cdrs := by rw [hinv]; simp
      subst hl'
      simp +contextual only [go_sem, ↓reduceIte, Nat.reduceEqDiff, Nat.reduceAdd, Nat.reduceLeDiff, Nat.reduceLT, reduceCtorEq, k40, Int.lt_irrefl, decide_false, List.length_map, isF_kc]
    · intro i l x xs hdr hlt hx hinv
      have hw := wrap_nat hlt (by omega)
      have hno : hasI CdrD.id l x.id = false := by rw [hinv] at hn; exact nodup_has hn
      have hput := put_kv CdrD.id hno
      simp +contextual only [go_sem, ↓reduceIte, Nat.reduceEqDiff, Nat.reduceAdd, Nat.reduceLeDiff, Nat.reduceLT, reduceCtorEq, k40, lt_dec hlt, hx, hw, putF_kc, hput, List.length_map, List.getElem?_map, Option.map_some, Int.natCast_nonneg, Int.toNat_natCast]
      refine ⟨l ++ [x], by rw [hinv]; simp, .back rfl ?_⟩
      simp +contextual only [go_sem, ↓reduceIte, Nat.reduceEqDiff, Nat.reduceAdd, Nat.reduceLeDiff, Nat.reduceLT, reduceCtorEq, low_kc, low_cdrs]
  · cases h
def misB (p q : PartyD) (c : CdrD) : Bool := !hasI CdrD.id q.cdrs c.id && pairB p.name q.name c
def misR (p q : PartyD) : List CdrD := p.cdrs.filter (misB p q)
abbrev SMis : List V → Option V := FT fun (t : PtrD × PartyD × PartyD × Unit) => if t.2.1.cdrs.length ≤ 10000 ∧ okIt t.2.1.cdrs = true ∧ t.2.2.1.cdrs.length ≤ 10000 ∧ (t.2.2.1.cdrs.map CdrD.id).Nodup then some (misR t.2.1 t.2.2.1) else none
theorem con43 {Φ : Specs} (hg : Idl.Good Try.prog Φ) (h40 : Φ 40 = some SRcM) (h48 : Φ 48 = some SPair) (h19 : Φ 19 = some SFrR) : Contract Try.prog 43 SMis := by
  refine conT hg k43 ic43 (by decide) fun C t r h => ?_
  obtain ⟨y, p, q, u⟩ := t
  dsimp only at h
  split at h
  · rename_i hl
    obtain ⟨hl, hit, hq⟩ := hl
    cases h
    simp +contextual only [go_sem, ↓reduceIte, Nat.reduceEqDiff, Nat.reduceAdd, Nat.reduceLeDiff, Nat.reduceLT, reduceCtorEq, c43, k43, h40, hq, and_self, List.length_map]
    refine TriI.loopL hg k43 p.cdrs (fun i (acc : List CdrD) => ⟨slotsL [(4, .ref 0 0 0), (5, .ref 1 0 0), (7, .mapf (keysM (kvM CdrD.id q.cdrs)) (valsM (kvM CdrD.id q.cdrs))), (8, .own 2 0 acc.length), (16, Cod.enc p.cdrs), (17, .sc (.int .i64 p.cdrs.length)), (18, .sc (.int .i64 i))],
        objsL [.live 7 [Cod.enc p] true, .live 7 [Cod.enc q] true, .live 14 (acc.map Cod.enc) true], 3⟩)
      (fun xs acc => misR p q = acc ++ xs.filter (misB p q) ∧ acc.length + xs.length ≤ 10000) [] (.ren [some 0, some 1, none] rfl rfl 2 ?_) ⟨rfl, by simpa using hl⟩ ?_ ?_
    · simp +contextual only [go_sem, ↓reduceIte, Nat.reduceEqDiff, Nat.reduceAdd, Nat.reduceLeDiff, Nat.reduceLT, reduceCtorEq, List.length_map, List.map_nil, List.length_nil]
      rfl
    · rintro acc ⟨g1, g2⟩
      have hT : (acc.map Cod.enc : List V).take acc.length = acc.map Cod.enc := List.take_of_length_le (by simp)
      rw [List.filter_nil, List.append_nil] at g1
      simp +contextual only [go_sem, ↓reduceIte, Nat.reduceEqDiff, Nat.reduceAdd, Nat.reduceLeDiff, Nat.reduceLT, reduceCtorEq, k43, Int.lt_irrefl, decide_false, List.length_map, Nat.zero_add, Nat.le_refl, isF_cdrs, hT, decL_enc Cod.dec_enc, true_and, and_true]
      exact g1.symm
    · rintro i acc x xs hdr hlt hx ⟨g1, g2⟩
      have hw := wrap_nat hlt (by omega)
      have hlk := look_kv CdrD.id x.id q.cdrs
      rw [List.length_cons] at g2
      have b1 : (acc.length + 1) * 184 ≤ 68719476736 := by omega
      have b2 : acc.length + 1 ≤ 4294967296 := by omega
      have l1 := okIt_mem hit (List.mem_of_getElem? hx)
      cases e : getI CdrD.id q.cdrs x.id with
      | some o =>
        rw [e] at hlk
        have hmis : misB p q x = false := by rw [misB, hasI_get, e]; rfl
        rw [List.filter_cons_of_neg (by simp [hmis])] at g1
        simp +contextual only [go_sem, ↓reduceIte, Nat.reduceEqDiff, Nat.reduceAdd, Nat.reduceLeDiff, Nat.reduceLT, reduceCtorEq, k43, lt_dec hlt, hx, hw, hlk, List.length_map, List.getElem?_map, Option.map_some, Int.natCast_nonneg, Int.toNat_natCast]
        refine ⟨acc, ⟨g1, by omega⟩, .back rfl ?_⟩
        simp +contextual only [go_sem, ↓reduceIte, Nat.reduceEqDiff, Nat.reduceAdd, Nat.reduceLeDiff, Nat.reduceLT, reduceCtorEq, low_kc, low_cdrs]
      | none =>
        rw [e] at hlk
        cases hp : pairB p.name q.name x with
        | false =>
          have hmis : misB p q x = false := by rw [misB, hp, Bool.and_false]
          rw [List.filter_cons_of_neg (by simp [hmis])] at g1
          simp +contextual only [go_sem, ↓reduceIte, Nat.reduceEqDiff, Nat.reduceAdd, Nat.reduceLeDiff, Nat.reduceLT, reduceCtorEq, k43, lt_dec hlt, hx, hw, hlk, h48, hp, List.length_map, List.getElem?_map, Option.map_some, Int.natCast_nonneg, Int.toNat_natCast]
          refine ⟨acc, ⟨g1, by omega⟩, .back rfl ?_⟩
          simp +contextual only [go_sem, ↓reduceIte, Nat.reduceEqDiff, Nat.reduceAdd, Nat.reduceLeDiff, Nat.reduceLT, reduceCtorEq, low_kc, low_cdrs]
        | true =>
          have hmis : misB p q x = true := by rw [misB, hp, hasI_get, e]; rfl
          rw [List.filter_cons_of_pos hmis] at g1
          simp +contextual only [go_sem, ↓reduceIte, Nat.reduceEqDiff, Nat.reduceAdd, Nat.reduceLeDiff, Nat.reduceLT, reduceCtorEq, k43, lt_dec hlt, hx, hw, hlk, h48, hp, h19, l1, b1, b2, okE, okE_items, isF_items, low_cdrs, List.length_map, List.getElem?_map, Option.map_some, Int.natCast_nonneg, Int.toNat_natCast, List.drop_zero, Nat.zero_add, Nat.le_refl, List.take_of_length_le, decL_enc Cod.dec_enc, true_and, and_true]
          refine ⟨acc ++ [x], ⟨by rw [g1]; simp, by simp; omega⟩, .ren [some 0, some 1, some 8] rfl rfl 2 ?_⟩
          simp +contextual only [go_sem, ↓reduceIte, Nat.reduceEqDiff, Nat.reduceAdd, Nat.reduceLeDiff, Nat.reduceLT, reduceCtorEq, low_cdrs, List.map_append, List.map_cons, List.map_nil, List.length_append, List.length_cons, List.length_nil, List.all_append, Nat.zero_add]
  · cases h
end Go.Proofs.Ytalhbhbkdfmhgaa
