/- Lists of objects compared. -/
import Derived.Test.YtaagkdmmdgajjaaDir45j
namespace Go.Proofs.Ytaagkdmmdgajjaa
set_option linter.all false
open Go.Idl
set_option maxHeartbeats 4000000
set_option maxRecDepth 100000
attribute [local go_sem] eqOK agObj agDir agOK agSh agMk Try.underlying3 Try.underlying5 Try.underlying9 Try.underlying4

/-- A call by its contract, in a walk. -/
theorem callT_con {P : Program} {C : Ctx} {f : FuncId} {F : List V → Option V} (he : Idl.enters P f = true) (hc : Contract P f F) {vs : List V} {s : SF} {r : V} (hF : F vs = some r) (hf : vs.all V.isF = true) {K : V → SF → Prop} (hK : K r s) : CallT P C f vs s K := by
  refine ⟨he, fun tm w γ I args hS hl hrep => ?_⟩
  rw [List.all_eq_true] at hf
  refine (hc I w args vs r hl (fun j x u hx hu => (hrep j x u hx hu).frozenF (hf x (List.mem_of_getElem? hx))) hS.immS (Laid.keep hS.below.below C.laid) hF).mono ?_
  rintro e w' ⟨u, rfl, hb, hr⟩
  refine ⟨u, r, s, rfl, hK, γ, _, hS.grow hb (I' := fun g x => I g x ∨ (w.heap.size ≤ g ∧ g < w'.heap.size)) (fun _ _ h => .inl h) fun _ _ h => h, hr.mono (Pres.refl _ _) (fun _ _ h => h) (by simp [noPlaces])⟩

theorem ft_two {α β γ : Type} [Cod α] [Cod β] [CodR γ] (g : α × β × Unit → Option γ) (a : α) (b : β) : FT g [Cod.enc a, Cod.enc b] = FTc (g (a, b, ())) := by
  simp only [FT, decA_cons, decA_unit, Cod.dec_enc, dec2, FTb]
def sameL : List ObjD → List ObjD → Bool
  | [], [] => true
  | x :: xs, y :: ys => sameO x y && sameL xs ys
  | _, _ => false
theorem sameL_iff : ∀ {a b : List ObjD}, sameL a b = true ↔ a = b
  | [], [] => by simp [sameL]
  | [], _ :: _ => by simp [sameL]
  | _ :: _, [] => by simp [sameL]
  | x :: xs, y :: ys => by
    rw [sameL, Bool.and_eq_true, sameO_iff, sameL_iff]
    simp
theorem sameL_len {a b : List ObjD} (h : a.length ≠ b.length) : sameL a b = false := by
  cases hs : sameL a b with
  | false => rfl
  | true => exact absurd (congrArg List.length (sameL_iff.1 hs)) h
abbrev SSms : List V → Option V := FT fun (t : List ObjD × List ObjD × Unit) => if t.1.length ≤ 1000000 ∧ t.2.1.length ≤ 1000000 then some (sameL t.1 t.2.1) else none
theorem con19 {Φ : Specs} (hg : Idl.Good Try.prog Φ) (hsame : Contract Try.prog 18 SSam) (heq : Φ 39 = none) : Contract Try.prog 19 SSms := by
  refine conT hg k19 ic19 (by decide) fun C t r h => ?_
  obtain ⟨a, b, u⟩ := t
  dsimp only at h
  split at h
  · rename_i hl
    obtain ⟨hla, hlb⟩ := hl
    cases h
    simp +contextual only [go_sem, ↓reduceIte, Nat.reduceEqDiff, Nat.reduceAdd, Nat.reduceLeDiff, Nat.reduceLT, reduceCtorEq, c19, k19, heq]
    refine CallT.of_walk hg k39 ic39 (by simp) fun C' hlow => ?_
    have hl0 : LowC C' 0 := hlow 0 (by repeat (first | exact LowT.pnil | apply LowT.upd | apply LowT.prune | apply LowT.pcons | rfl)) (LowC.top _ _)
    by_cases hlen : a.length = b.length
    · have hd : ((a.length : Int) != (b.length : Int)) = false := by simp; omega
      have hz : (a.zip b).length = a.length := by rw [List.length_zip]; omega
      have hz1 : (a.zip b).map (·.1) = a := List.map_fst_zip (by omega)
      have hz2 : (a.zip b).map (·.2) = b := List.map_snd_zip (by omega)
      simp +contextual only [go_sem, ↓reduceIte, Nat.reduceEqDiff, Nat.reduceAdd, Nat.reduceLeDiff, Nat.reduceLT, reduceCtorEq, c39, k39, List.length_map, hd]
      refine TriI.loopL hg k39 (a.zip b) (fun i (_ : Unit) => ⟨slotsL [(1, Cod.enc b), (2, .sc (.func (.func 18) #[] #[])), (15, Cod.enc a), (16, .sc (.int .i64 a.length)), (17, .sc (.int .i64 i))], objsL [], 0⟩) (fun xs _ => sameL (xs.map (·.1)) (xs.map (·.2)) = sameL a b) () (.back rfl ?_) (by rw [hz1, hz2]) ?_ ?_
      · simp +contextual only [go_sem, ↓reduceIte, Nat.reduceEqDiff, Nat.reduceAdd, Nat.reduceLeDiff, Nat.reduceLT, reduceCtorEq]
        rfl
      · intro _ hinv
        rw [hz]
        simp +contextual only [go_sem, ↓reduceIte, Nat.reduceEqDiff, Nat.reduceAdd, Nat.reduceLeDiff, Nat.reduceLT, reduceCtorEq, k39, Int.lt_irrefl, decide_false]
        exact hinv
      · intro i _ x xs hdr hlt hx hinv
        rw [hz] at hlt
        have hw := wrap_nat hlt (by omega)
        obtain ⟨hx1, hx2⟩ := List.getElem?_zip_eq_some.1 hx
        have hn : sameL (x.1 :: xs.map (·.1)) (x.2 :: xs.map (·.2)) = (sameO x.1 x.2 && sameL (xs.map (·.1)) (xs.map (·.2))) := rfl
        rw [List.map_cons, List.map_cons, hn] at hinv
        simp +contextual only [go_sem, ↓reduceIte, Nat.reduceEqDiff, Nat.reduceAdd, Nat.reduceLeDiff, Nat.reduceLT, reduceCtorEq, k39, lt_dec hlt, hx1, hx2, hw, List.getElem?_map, Option.map_some, Int.natCast_nonneg, Int.toNat_natCast]
        refine callT_con (facts_enters ic18) hsame (r := .sc (.bool (sameO x.1 x.2))) (ft_two _ x.1 x.2) (by rfl) ?_
        simp +contextual only [go_sem, ↓reduceIte, Nat.reduceEqDiff, Nat.reduceAdd, Nat.reduceLeDiff, Nat.reduceLT, reduceCtorEq, k39, hw]
        refine ⟨fun h => ?_, fun h => ⟨(), ?_, .back rfl ?_⟩⟩
        · have h' : sameO x.1 x.2 = false := by simpa using h
          rw [← hinv, h', Bool.false_and]
        · have h' : sameO x.1 x.2 = true := by simpa using h
          dsimp only
          rw [← hinv, h', Bool.true_and]
        · simp +contextual only [go_sem, ↓reduceIte, Nat.reduceEqDiff, Nat.reduceAdd, Nat.reduceLeDiff, Nat.reduceLT, reduceCtorEq]
    · have hd : ((a.length : Int) != (b.length : Int)) = true := by simp; omega
      have hs := sameL_len hlen
      simp +contextual only [go_sem, ↓reduceIte, Nat.reduceEqDiff, Nat.reduceAdd, Nat.reduceLeDiff, Nat.reduceLT, reduceCtorEq, c39, k39, List.length_map, hd, hs]
  · cases h

/-! ### Directories -/
def eqI : List Int → List Int → Bool
  | [], [] => true
  | x :: xs, y :: ys => (x == y) && eqI xs ys
  | _, _ => false
theorem eqI_iff : ∀ {a b : List Int}, eqI a b = true ↔ a = b
  | [], [] => by simp [eqI]
  | [], _ :: _ => by simp [eqI]
  | _ :: _, [] => by simp [eqI]
  | x :: xs, y :: ys => by
    rw [eqI, Bool.and_eq_true, eqI_iff]
    simp
abbrev SEqI : List V → Option V := FT fun (t : List Int × List Int × Unit) => if t.1.length ≤ 1000000 ∧ t.2.1.length ≤ 1000000 then some (eqI t.1 t.2.1) else none
theorem eqI_len {a b : List Int} (h : a.length ≠ b.length) : eqI a b = false := by
  cases hs : eqI a b with
  | false => rfl
  | true => exact absurd (congrArg List.length (eqI_iff.1 hs)) h
theorem con30 {Φ : Specs} (hg : Idl.Good Try.prog Φ) : Contract Try.prog 30 SEqI := by
  refine conT hg k30 ic30 (by decide) fun C t r h => ?_
  obtain ⟨a, b, u⟩ := t
  dsimp only at h
  split at h
  · rename_i hl
    obtain ⟨hla, hlb⟩ := hl
    cases h
    by_cases hlen : a.length = b.length
    · have hd : ((a.length : Int) != (b.length : Int)) = false := by simp; omega
      have hz : (a.zip b).length = a.length := by rw [List.length_zip]; omega
      have hz1 : (a.zip b).map (·.1) = a := List.map_fst_zip (by omega)
      have hz2 : (a.zip b).map (·.2) = b := List.map_snd_zip (by omega)
      simp +contextual only [go_sem, ↓reduceIte, Nat.reduceEqDiff, Nat.reduceAdd, Nat.reduceLeDiff, Nat.reduceLT, reduceCtorEq, c30, k30, List.length_map, hd]
      refine TriI.loopL hg k30 (a.zip b) (fun i (_ : Unit) => ⟨slotsL [(0, Cod.enc a), (1, Cod.enc b), (12, .sc (.int .i64 a.length)), (13, .sc (.int .i64 i))], objsL [], 0⟩) (fun xs _ => eqI (xs.map (·.1)) (xs.map (·.2)) = eqI a b) () (.back rfl ?_) (by rw [hz1, hz2]) ?_ ?_
      · simp +contextual only [go_sem, ↓reduceIte, Nat.reduceEqDiff, Nat.reduceAdd, Nat.reduceLeDiff, Nat.reduceLT, reduceCtorEq]
        trivial
      · intro _ hinv
        rw [hz]
        simp +contextual only [go_sem, ↓reduceIte, Nat.reduceEqDiff, Nat.reduceAdd, Nat.reduceLeDiff, Nat.reduceLT, reduceCtorEq, k30, Int.lt_irrefl, decide_false]
        exact hinv
      · intro i _ x xs hdr hlt hx hinv
        rw [hz] at hlt
        have hw := wrap_nat hlt (by omega)
        obtain ⟨hx1, hx2⟩ := List.getElem?_zip_eq_some.1 hx
        have hn : eqI (x.1 :: xs.map (·.1)) (x.2 :: xs.map (·.2)) = ((x.1 == x.2) && eqI (xs.map (·.1)) (xs.map (·.2))) := rfl
        rw [List.map_cons, List.map_cons, hn] at hinv
        simp +contextual only [go_sem, ↓reduceIte, Nat.reduceEqDiff, Nat.reduceAdd, Nat.reduceLeDiff, Nat.reduceLT, reduceCtorEq, k30, lt_dec hlt, hx1, hx2, hw, List.getElem?_map, Option.map_some, Int.natCast_nonneg, Int.toNat_natCast]
        refine ⟨rfl, fun h => ?_, fun h => ⟨(), ?_, .back rfl ?_⟩⟩
        · have h' : (x.1 == x.2) = false := by simpa using h
          rw [← hinv, h', Bool.false_and]
        · have h' : (x.1 == x.2) = true := by simpa using h
          dsimp only
          rw [← hinv, h', Bool.true_and]
        · simp +contextual only [go_sem, ↓reduceIte, Nat.reduceEqDiff, Nat.reduceAdd, Nat.reduceLeDiff, Nat.reduceLT, reduceCtorEq]
    · have hd : ((a.length : Int) != (b.length : Int)) = true := by simp; omega
      have hs := eqI_len hlen
      simp +contextual only [go_sem, ↓reduceIte, Nat.reduceEqDiff, Nat.reduceAdd, Nat.reduceLeDiff, Nat.reduceLT, reduceCtorEq, c30, k30, List.length_map, hd, hs]
  · cases h

def sameD (a b : DirD) : Bool := decide (a.party = b.party) && (a.next == b.next) && eqI a.marks b.marks && sameL a.objects b.objects
theorem sameD_iff {a b : DirD} : sameD a b = true ↔ a = b := by
  constructor
  · intro h
    simp only [sameD, Bool.and_eq_true, beq_iff_eq, decide_eq_true_eq, eqI_iff, sameL_iff] at h
    obtain ⟨⟨⟨h1, h2⟩, h3⟩, h4⟩ := h
    cases a; cases b
    simp at h1 h2 h3 h4
    subst h1 h2 h3 h4
    rfl
  · rintro rfl; simp [sameD, eqI_iff, sameL_iff]
def smallD (d : DirD) : Bool := decide (d.objects.length ≤ 1000000) && decide (d.marks.length ≤ 1000000)
abbrev SSmD : List V → Option V := FT fun (t : DirD × DirD × Unit) => if smallD t.1 = true ∧ smallD t.2.1 = true then some (sameD t.1 t.2.1) else none
theorem con21 {Φ : Specs} (hg : Idl.Good Try.prog Φ) (h30 : Φ 30 = some SEqI) (h19 : Φ 19 = some SSms) : Contract Try.prog 21 SSmD := by
  refine conT hg k21 ic21 (by decide) fun C t r h => ?_
  obtain ⟨a, b, u⟩ := t
  dsimp only at h
  split at h
  · rename_i hl
    obtain ⟨hla, hlb⟩ := hl
    simp only [smallD, Bool.and_eq_true, decide_eq_true_eq] at hla hlb
    obtain ⟨a1, a2⟩ := hla
    obtain ⟨b1, b2⟩ := hlb
    cases h
    simp +contextual only [go_sem, ↓reduceIte, Nat.reduceEqDiff, Nat.reduceAdd, Nat.reduceLeDiff, Nat.reduceLT, reduceCtorEq, c21, k21, h30, h19, a1, a2, b1, b2, and_self]
    trivial
  · cases h
end Go.Proofs.Ytaagkdmmdgajjaa
