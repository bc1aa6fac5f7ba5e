/- The law of gaps. -/
import Derived.Test.YtnafhnnhhdmnfaaLaw36c
namespace Go.Proofs.Ytnafhnnhhdmnfaa
set_option linter.all false
open Go.Idl
set_option maxHeartbeats 4000000
set_option maxRecDepth 100000
attribute [local go_sem] Try.underlying3 Try.underlying5 Try.underlying47 Try.underlying9 Try.underlying4 agKey
theorem agEv : agOf Try.prog 29 = some (some 10) := by kernel_rfl
attribute [local go_sem] agEv
def exE (n k : Int) : EvD := ⟨⟨#[83]⟩, ⟨#[84]⟩, 1, n, k, n, bif k == 1 then ⟨#[65]⟩ else ⟨#[]⟩, false, bif k == 3 then 1 else 0, [⟨n, 7⟩]⟩
abbrev SEvC : List V → Option V := FT fun (t : Int × Int × Unit) => some (exE t.1 t.2.1)
theorem con25 {Φ : Specs} (hg : Idl.Good Try.prog Φ) : Contract Try.prog 25 SEvC := by
  refine conT hg k25 ic25 (by decide) fun C t r h => ?_
  obtain ⟨n, k, u⟩ := t
  cases h
  simp +contextual only [go_sem, ↓reduceIte, Nat.reduceEqDiff, Nat.reduceAdd, Nat.reduceLeDiff, Nat.reduceLT, reduceCtorEq, c25, k25]
  (repeat' (first | apply And.intro | intro _)) <;> simp only [exE, *, cond_true, cond_false]
theorem C25 : Contract Try.prog 25 SEvC := con25 good0
theorem exE3_ok {n : Int} (h0 : 1 ≤ n) (h1 : n ≤ 400) : evS (exE n 3) = 0 := by
  have e1 : numsS (exE n 3) = true := by
    show (inR 1 32 1 && inR 0 2147483647 n && inR 0 268435456 n) = true
    simp only [inR, Bool.and_eq_true, decide_eq_true_eq]; omega
  have e2 : kindS (exE n 3) = 0 := by
    have : (n == 0) = false := by simp; omega
    simp [kindS, exE, this]
  have e3 : rdsS (exE n 3) = 0 := by
    have : rdgOk ⟨n, 7⟩ = true := by simp [rdgOk, timeOk, inR]; omega
    simp [rdsS, exE, rdsL, this, noMore, lastT]
  have e4 : okName (exE n 3).station = true := by show okName ⟨#[83]⟩ = true; decide +kernel
  have e5 : okName (exE n 3).txn = true := by show okName ⟨#[84]⟩ = true; decide +kernel
  simp [evS, e1, e2, e3, e4, e5]
theorem exE2_ok {n : Int} (h0 : 1 ≤ n) (h1 : n ≤ 400) : evS (exE n 2) = 0 := by
  have e1 : numsS (exE n 2) = true := by
    show (inR 1 32 1 && inR 0 2147483647 n && inR 0 268435456 n) = true
    simp only [inR, Bool.and_eq_true, decide_eq_true_eq]; omega
  have e2 : kindS (exE n 2) = 0 := by
    have : (n == 0) = false := by simp; omega
    simp [kindS, exE, this]
  have e3 : rdsS (exE n 2) = 0 := by
    have : rdgOk ⟨n, 7⟩ = true := by simp [rdgOk, timeOk, inR]; omega
    simp [rdsS, exE, rdsL, this, noMore, lastT]
  have e4 : okName (exE n 2).station = true := by show okName ⟨#[83]⟩ = true; decide +kernel
  have e5 : okName (exE n 2).txn = true := by show okName ⟨#[84]⟩ = true; decide +kernel
  simp [evS, e1, e2, e3, e4, e5]
theorem coll_nil' : Coll [] := ⟨by simp, .nil, by simp⟩
theorem put1 {h : Int} (h0 : 1 ≤ h) (h1 : h ≤ 400) : putS [] (exE h 3) = ([exE h 3], 0) := by
  rw [putS_eq coll_nil', putR, exE3_ok h0 h1]; rfl
theorem put2 {l h : Int} (l0 : 1 ≤ l) (lh : l < h) (h1 : h ≤ 400) : putS [exE h 3] (exE l 2) = ([exE l 2, exE h 3], 0) := by
  have hC : Coll [exE h 3] := by
    have := putR_coll coll_nil' (exE h 3)
    rw [← putS_eq coll_nil', put1 (by omega) h1] at this
    exact this
  have n1 : hitR (exE l 2) (exE h 3) = false := by simp [hitR, exE]; omega
  have n2 : (one (exE h 3) (exE l 2) && contra (exE h 3) (exE l 2)) = false := by
    have : contra (exE h 3) (exE l 2) = false := by
      rw [contra_comm]
      exact (contra_lt (a := exE l 2) (b := exE h 3) lh).2 ⟨by simp [exE], by simp [exE]; omega⟩
    simp [this]
  have n3 : bef (exE h 3) (exE l 2) = false := by
    rw [Bool.eq_false_iff]
    intro hb
    rw [bef_iff] at hb
    have : cmpT (keyE (exE h 3)) (keyE (exE l 2)) = 0 := cmpT_eq.2 ⟨rfl, rfl⟩
    simp only [exE] at hb this
    omega
  rw [putS_eq hC, putR, exE2_ok l0 (by omega)]
  simp only [List.find?_cons_of_neg (p := hitR (exE l 2)) (a := exE h 3) (by simp [n1]), List.find?_nil, List.any_cons, List.any_nil, n2]
  have : atR [exE h 3] (exE l 2) = 0 := by simp [atR, n3]
  rw [this]; rfl
def gN (l : Int) (i : Nat) : Int := if (i : Int) < l then (i : Int) else (i : Int) + 1
theorem nums_gap {l h : Nat} (lh : l < h) (p : Nat → Bool) (hp : ∀ n, p n = (decide (n ≠ l) && decide (n ≠ h))) : ∀ k, k ≤ h → nums p k = (List.range (if k ≤ l then k else k - 1)).map (gN l) := by
  intro k
  induction k with
  | zero => intro _; simp [nums]
  | succ k ih =>
    intro hk
    rw [nums_succ, ih (by omega)]
    by_cases h1 : k < l
    · have : p k = true := by rw [hp]; simp; omega
      rw [this, if_pos (by omega), if_pos (by omega), List.range_succ, List.map_append]
      simp [gN, h1]
    · by_cases h2 : k = l
      · have : p k = false := by rw [hp]; simp [h2]
        rw [this, if_pos (by omega), if_neg (by omega)]
        simp
      · have : p k = true := by rw [hp]; simp; omega
        obtain ⟨j, rfl⟩ : ∃ j, k = j + 1 := ⟨k - 1, by omega⟩
        rw [this, if_neg (by omega), if_neg (by omega)]
        simp only [Nat.add_sub_cancel, List.range_succ, List.map_append, cond_true, List.map_cons, List.map_nil, gN]
        rw [if_neg (by omega)]; simp
theorem miss12 {l h : Nat} (l0 : 1 ≤ l) (lh : l < h) (h1 : h ≤ 400) : cutN (pR [exE l 2, exE h 3]) (topN [exE l 2, exE h 3]) = (List.range (min 256 (h - 1))).map (gN l) := by
  have hp : ∀ n, pR [exE l 2, exE h 3] n = (decide (n ≠ l) && decide (n ≠ h)) := fun n => by
    rw [Bool.eq_iff_iff]
    simp [pR, exE]; omega
  have ht : topN [exE l 2, exE h 3] = h + 1 := by simp [topN, exE]
  rw [ht, cutN_hit _ (by rw [hp]; simp), cutN, nums_gap lh _ hp h (Nat.le_refl h), if_neg (by omega), ← List.map_take, List.take_range]
theorem con8 {Φ : Specs} (hg : Idl.Good Try.prog Φ) (h10 : Φ 10 = some Aw) (h25 : Φ 25 = some SEvC) (h13 : Φ 13 = some SPut) (h16 : Φ 16 = some SMissI) :
    Contract Try.prog 8 (FT fun (_ : KInt .u16 × KInt .u16 × Unit) => some true) := by
  refine conT hg k8 ic8 (by decide) fun C t r h => ?_
  obtain ⟨a, b, u⟩ := t
  cases h
  have a1 : 0 ≤ a.1 := a.2.1
  have a2 : a.1 ≤ 65535 := a.2.2
  have b1 : 0 ≤ b.1 := b.2.1
  have b2 : b.1 ≤ 65535 := b.2.2
  cases hgd : (a.1 == b.1 || a.1 == 0 || b.1 == 0 || decide (a.1 > 400) || decide (b.1 > 400)) with
  | true => simp +contextual only [go_sem, ↓reduceIte, Nat.reduceEqDiff, Nat.reduceAdd, Nat.reduceLeDiff, Nat.reduceLT, reduceCtorEq, c8, k8, h10, hgd]
  | false =>
    have hwa : IntKind.i64.wrap a.1 = a.1 := by rw [IntKind.wrap_i64]; omega
    have hwb : IntKind.i64.wrap b.1 = b.1 := by rw [IntKind.wrap_i64]; omega
    simp only [Bool.or_eq_false_iff, beq_eq_false_iff_ne, ne_eq, decide_eq_false_iff_not] at hgd
    have hgd2 := hgd
    obtain ⟨l, hl⟩ : ∃ l : Nat, min a.1 b.1 = (l : Int) := Int.eq_ofNat_of_zero_le (by omega)
    obtain ⟨h, hh⟩ : ∃ h : Nat, max a.1 b.1 = (h : Int) := Int.eq_ofNat_of_zero_le (by omega)
    have l0 : 1 ≤ l := by omega
    have lh : l < h := by omega
    have h4 : h ≤ 400 := by omega
    have c0 : colS [] = 0 := rfl
    have p1 := put1 (h := (h : Int)) (by omega) (by omega)
    have p2 := put2 (l := (l : Int)) (h := (h : Int)) (by omega) (by omega) (by omega)
    have C1 : Coll [exE h 3] := by have := putR_coll coll_nil' (exE h 3); rw [← putS_eq coll_nil', p1] at this; exact this
    have C2 : Coll [exE l 2, exE h 3] := by have := putR_coll C1 (exE l 2); rw [← putS_eq C1, p2] at this; exact this
    have c1 := colS_ok.2 C1
    have c2 := colS_ok.2 C2
    have hfil : [exE l 2, exE h 3].filter (ofP ⟨#[83]⟩ ⟨#[84]⟩) = [exE l 2, exE h 3] := by simp [List.filter, ofP, exE]
    have e3 := seg_of C2 ⟨#[83]⟩ ⟨#[84]⟩
    have hm := miss_eq C2 ⟨#[83]⟩ ⟨#[84]⟩
    rw [e3, hfil, miss12 l0 lh h4] at hm
    rw [hfil] at e3
    obtain ⟨e1, -⟩ := Prod.mk.inj hm
    have e4 : endE [exE l 2, exE h 3] = true := by simp [endE, exE]
    have g1 : (a.1 == b.1) = false := by simp; omega
    have g2 : (a.1 == 0) = false := by simp; omega
    have g3 : (b.1 == 0) = false := by simp; omega
    have g4 : decide (a.1 > 400) = false := by simp; omega
    have g5 : decide (b.1 > 400) = false := by simp; omega
    have w1 : IntKind.i64.wrap ((h : Int) - 1) = ((h - 1 : Nat) : Int) := by rw [IntKind.wrap_i64]; omega
    have w2 : (((min 256 (h - 1) : Nat) : Int) != min ((h - 1 : Nat) : Int) 256) = false := by simp; omega
    simp +contextual only [go_sem, ↓reduceIte, Nat.reduceEqDiff, Nat.reduceAdd, Nat.reduceLeDiff, Nat.reduceLT, reduceCtorEq, c8, k8, h10, g1, g2, g3, g4, g5, hwa, hwb, hl, hh, h25, h13, h16, c0, p1, p2, c1, c2, e1, e3, e4, w1, w2, List.length_map, List.length_range, Bool.or_false]
    have hlen : ((List.range (min 256 (h - 1))).map (gN l)).length = min 256 (h - 1) := by simp
    refine TriI.loopL hg k8 ((List.range (min 256 (h - 1))).map (gN l)) (fun i (_ : Unit) => ⟨slotsL [(5, .sc (.int .i64 (l : Nat))), (10, Cod.enc ((List.range (min 256 (h - 1))).map (gN l))), (12, .sc (.int .i64 (if i ≤ l then (i : Int) else (i : Int) + 1))), (13, .sc (.int .i64 i))], objsL [], 0⟩)
      (fun _ _ => True) () (.back rfl ?_) trivial ?_ ?_
    · simp +contextual only [go_sem, ↓reduceIte, Nat.reduceEqDiff, Nat.reduceAdd, Nat.reduceLeDiff, Nat.reduceLT, reduceCtorEq]
      exact ⟨by rw [if_pos (by omega)]; rfl, rfl⟩
    · intro _ _
      simp +contextual only [go_sem, ↓reduceIte, Nat.reduceEqDiff, Nat.reduceAdd, Nat.reduceLeDiff, Nat.reduceLT, reduceCtorEq, k8, Int.lt_irrefl, decide_false, List.length_map, List.length_range, h10]
    · intro i _ x xs hd hlt hx _
      have hi : i < min 256 (h - 1) := by rw [← hlen]; exact hlt
      have hx1 : x = gN l i := by
        rw [List.getElem?_map, List.getElem?_range hi] at hx
        simpa using hx.symm
      have hw := wrap_nat hi (by omega)
      by_cases c1 : i ≤ l
      · rw [if_pos c1]
        by_cases c2 : i = l
        · subst c2
          have q1 : ((i : Int) == (i : Int)) = true := by simp
          have q2 : (x != ((i + 1 : Nat) : Int)) = false := by rw [hx1, gN]; simp
          have q3 : IntKind.i64.wrap (((i + 1 : Nat) : Int) + 1) = (if i + 1 ≤ i then ((i + 1 : Nat) : Int) else ((i + 1 : Nat) : Int) + 1) := by rw [if_neg (by omega), IntKind.wrap_i64]; omega
          simp +contextual only [go_sem, ↓reduceIte, Nat.reduceEqDiff, Nat.reduceAdd, Nat.reduceLeDiff, Nat.reduceLT, reduceCtorEq, k8, lt_dec hi, hx, hw, q1, q2, q3, List.length_map, List.length_range, List.getElem?_map, Option.map_some, Int.natCast_nonneg, Int.toNat_natCast]
          refine ⟨(), trivial, .back rfl ?_⟩
          simp +contextual only [go_sem, ↓reduceIte, Nat.reduceEqDiff, Nat.reduceAdd, Nat.reduceLeDiff, Nat.reduceLT, reduceCtorEq, q3]
        · have q1 : ((i : Int) == (l : Int)) = false := by simp; omega
          have q2 : (x != (i : Int)) = false := by rw [hx1, gN, if_pos (by omega)]; simp
          have q3 : (if i + 1 ≤ l then ((i + 1 : Nat) : Int) else ((i + 1 : Nat) : Int) + 1) = ((i + 1 : Nat) : Int) := by rw [if_pos (by omega)]
          simp +contextual only [go_sem, ↓reduceIte, Nat.reduceEqDiff, Nat.reduceAdd, Nat.reduceLeDiff, Nat.reduceLT, reduceCtorEq, k8, lt_dec hi, hx, hw, q1, q2, List.length_map, List.length_range, List.getElem?_map, Option.map_some, Int.natCast_nonneg, Int.toNat_natCast]
          refine ⟨(), trivial, .back rfl ?_⟩
          simp +contextual only [go_sem, ↓reduceIte, Nat.reduceEqDiff, Nat.reduceAdd, Nat.reduceLeDiff, Nat.reduceLT, reduceCtorEq, q3]
      · rw [if_neg c1]
        have q1 : (((i : Int) + 1) == (l : Int)) = false := by simp; omega
        have q2 : (x != ((i : Int) + 1)) = false := by rw [hx1, gN, if_neg (by omega)]; simp
        have q3 : IntKind.i64.wrap ((i : Int) + 1 + 1) = (if i + 1 ≤ l then ((i + 1 : Nat) : Int) else ((i + 1 : Nat) : Int) + 1) := by rw [if_neg (by omega), IntKind.wrap_i64]; omega
        simp +contextual only [go_sem, ↓reduceIte, Nat.reduceEqDiff, Nat.reduceAdd, Nat.reduceLeDiff, Nat.reduceLT, reduceCtorEq, k8, lt_dec hi, hx, hw, q1, q2, q3, List.length_map, List.length_range, List.getElem?_map, Option.map_some, Int.natCast_nonneg, Int.toNat_natCast]
        refine ⟨(), trivial, .back rfl ?_⟩
        simp +contextual only [go_sem, ↓reduceIte, Nat.reduceEqDiff, Nat.reduceAdd, Nat.reduceLeDiff, Nat.reduceLT, reduceCtorEq, q3]
theorem C8 : Contract Try.prog 8 (FT fun (_ : KInt .u16 × KInt .u16 × Unit) => some true) := by
  have g := good0
  have g := g.add (facts_enters ic10) conAw
  have g := g.add (facts_enters ic25) C25
  have g := g.add (facts_enters ic13) C13
  have g := g.add (facts_enters ic16) C16
  exact con8 g rfl rfl rfl rfl
end Go.Proofs.Ytnafhnnhhdmnfaa
