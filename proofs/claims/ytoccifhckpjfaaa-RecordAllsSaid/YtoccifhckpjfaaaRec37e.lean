/- Records: Small, the examples. -/
import Derived.Test.YtoccifhckpjfaaaRec37d
namespace Go.Idl
set_option linter.all false
variable [Laid] {P : Program} {Φ : Specs} {C : Ctx}
@[go_sem ↓] theorem stepI_3 (Q : SF → Prop) (rest : List IOp) (d : Nat) (io : Option Ins) (τ : Nat → V) (H : Heap) (n : Nat) (v : V) (i j k : Nat) (x y z : Obj) : stepI P Φ C Q rest (some d) io τ H n (some (v, [(i, x), (j, y), (k, z)])) = seqI P Φ C Q rest ⟨updT τ d v, updH (updH (updH H i x) j y) k z, n + 1⟩ := nd rfl
end Go.Idl
namespace Go.Proofs.Ytoccifhckpjfaaa
set_option linter.all false
open Go.Idl
set_option maxHeartbeats 8000000
set_option maxRecDepth 100000
attribute [local go_sem] agRec Try.underlying3 Try.underlying5 Try.underlying9 Try.underlying4 Try.underlying30 Try.underlying22 Try.underlying25
def sml (l : List EvD) : Bool := l.all fun x => !decide ((x.rds.length : Int) > 16)
def smallS (l : List EvD) : Bool := sml l && decide (l.length ≤ 60)
abbrev SSmall : List V → Option V := FT fun (t : List EvD × Unit) => if t.1.length ≤ 9223372036854775807 then some (smallS t.1) else none
theorem con7 {Φ : Specs} (hg : Idl.Good Try.prog Φ) : Contract Try.prog 7 SSmall := by
  refine conT hg k7 ic7 (by decide) fun C t r h => ?_
  obtain ⟨l, u⟩ := t
  dsimp only at h
  by_cases hl : l.length ≤ 9223372036854775807
  case neg => rw [if_neg hl] at h; cases h
  rw [if_pos hl] at h
  cases h
  simp +contextual only [go_sem, ↓reduceIte, Nat.reduceEqDiff, Nat.reduceAdd, Nat.reduceLeDiff, Nat.reduceLT, reduceCtorEq, c7, k7, List.length_map]
  refine TriI.loopL hg k7 l (fun i (_ : Unit) => ⟨slotsL [(0, Cod.enc l), (5, Cod.enc l), (6, .sc (.int .i64 l.length)), (7, .sc (.int .i64 i))], objsL [], 0⟩)
    (fun xs _ => sml xs = sml l) () (.back rfl ?_) rfl ?_ ?_
  · simp +contextual only [go_sem, ↓reduceIte, Nat.reduceEqDiff, Nat.reduceAdd, Nat.reduceLeDiff, Nat.reduceLT, reduceCtorEq, List.length_map]
    rfl
  · intro _ hinv
    have hs : sml l = true := hinv.symm
    simp +contextual only [go_sem, ↓reduceIte, Nat.reduceEqDiff, Nat.reduceAdd, Nat.reduceLeDiff, Nat.reduceLT, reduceCtorEq, k7, Int.lt_irrefl, decide_false, List.length_map]
    rw [smallS, hs, Bool.true_and]
    rw [decide_eq_decide]
    omega
  · intro i _ x xs hd hlt hx hinv
    have hw := wrap_nat hlt (by omega)
    have hsm : sml (x :: xs) = (!decide ((x.rds.length : Int) > 16) && sml xs) := rfl
    simp +contextual only [go_sem, ↓reduceIte, Nat.reduceEqDiff, Nat.reduceAdd, Nat.reduceLeDiff, Nat.reduceLT, reduceCtorEq, k7, lt_dec hlt, hx, hw, List.length_map, List.getElem?_map, Option.map_some, Int.natCast_nonneg, Int.toNat_natCast]
    refine ⟨fun hb => ?_, fun hb => ⟨(), ?_, .back rfl ?_⟩⟩
    · rw [smallS, ← hinv, hsm, hb]; rfl
    · rw [← hinv, hsm, hb]; rfl
    · simp +contextual only [go_sem, ↓reduceIte, Nat.reduceEqDiff, Nat.reduceAdd, Nat.reduceLeDiff, Nat.reduceLT, reduceCtorEq]
theorem small_len {l : List EvD} (h : smallS l = true) : l.length ≤ 60 := by
  rw [smallS, Bool.and_eq_true, decide_eq_true_eq] at h; exact h.2
def exA : EvD := ⟨⟨#[83]⟩, ⟨#[83, 45, 49]⟩, 1, 0, 1, 10, ⟨#[65]⟩, false, 0, [⟨10, 100⟩]⟩
def exB : EvD := ⟨⟨#[83]⟩, ⟨#[83, 45, 49]⟩, 1, 1, 3, 70, ⟨#[]⟩, false, 1, [⟨70, 400⟩]⟩
theorem exS2 : sortS [exB, exA] = [exA, exB] := by
  rw [← sortS_tags (l := [exB, exA]) (T := [1, 0]) (by decide) (by decide)]; rfl
theorem exS1 : sortS [exA] = [exA] := by
  rw [← sortS_tags (l := [exA]) (T := [0]) (by decide) (by decide)]; rfl
theorem exO2 : orderS [exB, exA] = ([exA, exB], 0) := by
  rw [orderS, exS2]; kernel_rfl
theorem exO1 : orderS [exA] = ([exA], 0) := by
  rw [orderS, exS1]; kernel_rfl
theorem exM2 : makeS [exB, exA] 1000 = (recOf exA exB false [⟨10, 100⟩, ⟨70, 400⟩] 300, 0) := by
  have hm : mrgE [] [exA, exB] = ([⟨10, 100⟩, ⟨70, 400⟩], 0) := by
    simp [mrgE, mrgS, exA, exB, asc, mrgL, consM]
  rw [makeS, exO2]
  have h1 : makeE [exA, exB] 1000 = (recOf exA exB false [⟨10, 100⟩, ⟨70, 400⟩] 300, 0) := by
    rw [makeE, hm]; kernel_rfl
  rw [h1]; rfl
theorem exM1 : makeS [exA] 1000 = (zeroR, 22) := by
  rw [makeS, exO1]; kernel_rfl
theorem con8 {Φ : Specs} (hg : Idl.Good Try.prog Φ) (h9 : Φ 9 = some SMake) : Contract Try.prog 8 (FT fun (_ : Unit) => some true) := by
  refine conT hg k8 ic8 (by decide) fun C t r h => ?_
  cases h
  have m1 : makeS [⟨⟨#[83]⟩, ⟨#[83, 45, 49]⟩, 1, 0, 1, 10, ⟨#[65]⟩, false, 0, [⟨10, 100⟩]⟩] 1000 = (zeroR, 22) := exM1
  have m2 : makeS [⟨⟨#[83]⟩, ⟨#[83, 45, 49]⟩, 1, 1, 3, 70, ⟨#[]⟩, false, 1, [⟨70, 400⟩]⟩, ⟨⟨#[83]⟩, ⟨#[83, 45, 49]⟩, 1, 0, 1, 10, ⟨#[65]⟩, false, 0, [⟨10, 100⟩]⟩] 1000 = (recOf exA exB false [⟨10, 100⟩, ⟨70, 400⟩] 300, 0) := exM2
  simp +contextual only [go_sem, ↓reduceIte, Nat.reduceEqDiff, Nat.reduceAdd, Nat.reduceLeDiff, Nat.reduceLT, reduceCtorEq, c8, k8, h9, m1, m2, recOf, exA, exB]
end Go.Proofs.Ytoccifhckpjfaaa
