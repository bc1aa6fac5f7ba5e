/- The contracts of disputes: validity, steps. -/
import Derived.Test.YtikmficjcbkhcaaGreatCdr
namespace Go.Proofs.YtikmficjcbkhcaaGreat
set_option linter.all false
open Go.Idl
set_option maxHeartbeats 4000000
set_option maxRecDepth 100000
attribute [local go_sem] Tryz.underlying3 Tryz.underlying5 Tryz.underlying9 Tryz.underlying21
def validD (d : Disp) : Int :=
  if !okName d.cdr || !okName d.who then 4
  else if decide (d.state < 1) || decide (d.state > 6) || decide (d.opened < 0) || decide (d.opened > 268435456) || decide (d.claim < 1) || decide (d.claim > 36028797018963968) || decide (d.granted < 0) || decide (d.granted > d.claim) then 2
  else if (d.granted == 0) != (d.state != 4) then 1 else 0
theorem con45 {Φ : Specs} (hg : Idl.Good Tryz.prog Φ) (h30 : Φ 30 = some F30) : Contract Tryz.prog 45 (FT fun (t : Disp × Unit) => some (validD t.1)) := by
  refine conT hg k45 ic45 (by decide) fun C t r h => ?_
  obtain ⟨d, u⟩ := t
  cases h
  simp +contextual only [go_sem, ↓reduceIte, Nat.reduceEqDiff, Nat.reduceAdd, Nat.reduceLeDiff, Nat.reduceLT, reduceCtorEq, c45, k45, h30, F30]
  unfold validD
  (repeat' (first | apply And.intro | intro _)) <;> simp_all
  all_goals (intros; omega)
theorem con53 {Φ : Specs} (hg : Idl.Good Tryz.prog Φ) (h49 : Φ 49 = some F30) : Contract Tryz.prog 53 (FT fun (t : Disp × Unit) => some (validD t.1)) := by
  refine conT hg k53 ic53 (by decide) fun C t r h => ?_
  obtain ⟨d, u⟩ := t
  cases h
  simp +contextual only [go_sem, ↓reduceIte, Nat.reduceEqDiff, Nat.reduceAdd, Nat.reduceLeDiff, Nat.reduceLT, reduceCtorEq, c53, k53, h49, F30]
  have e : ((d.granted == 0) != (d.state != 4)) = ((d.granted != 0) != (d.state == 4)) := by
    simp only [bne]; cases (d.granted == 0) <;> cases (d.state == 4) <;> rfl
  unfold validD
  rw [e]
  (repeat' (first | apply And.intro | intro _)) <;> simp_all
theorem ag23 : agOf Tryz.prog 54 = some (some 6) := by kernel_rfl
attribute [local go_sem] ag23
def rangeD (t : Disp × Int × Int × Int × Unit) : Bool :=
  decide (1 ≤ t.2.1 ∧ t.2.1 ≤ 5 ∧ t.1.opened ≤ t.2.2.2.1 ∧ t.2.2.2.1 ≤ 268435456) && (if t.2.1 = 3 then decide (1 ≤ t.2.2.1 ∧ t.2.2.1 ≤ t.1.claim) else decide (t.2.2.1 = 0))
theorem con46 {Φ : Specs} (hg : Idl.Good Tryz.prog Φ) : Contract Tryz.prog 46 (FT fun t => some (rangeD t)) := by
  refine conT hg k46 ic46 (by decide) fun C t r h => ?_
  obtain ⟨d, x, y, z, u⟩ := t
  cases h
  simp +contextual only [go_sem, ↓reduceIte, Nat.reduceEqDiff, Nat.reduceAdd, Nat.reduceLeDiff, Nat.reduceLT, reduceCtorEq, c46, k46]
  by_cases h3 : x = 3
  · subst h3; (repeat' (first | apply And.intro | intro _)) <;> (try simp_all [rangeD]) <;> (try omega)
  · (repeat' (first | apply And.intro | intro _)) <;> (try simp_all [rangeD]) <;> (try omega)
theorem con54 {Φ : Specs} (hg : Idl.Good Tryz.prog Φ) : Contract Tryz.prog 54 (FT fun t => some (rangeD t)) := by
  refine conT hg k54 ic54 (by decide) fun C t r h => ?_
  obtain ⟨d, x, y, z, u⟩ := t
  cases h
  simp +contextual only [go_sem, ↓reduceIte, Nat.reduceEqDiff, Nat.reduceAdd, Nat.reduceLeDiff, Nat.reduceLT, reduceCtorEq, c54, k54]
  have e0 : (y == 0) = decide (y = 0) := rfl
  by_cases h3 : x = 3
  · subst h3; (repeat' (first | apply And.intro | intro _)) <;> (try simp_all [rangeD]) <;> (try omega)
  · (repeat' (first | apply And.intro | intro _)) <;> (try simp_all [rangeD]) <;> (try omega)
theorem con47 {Φ : Specs} (hg : Idl.Good Tryz.prog Φ) : Contract Tryz.prog 47 (FT fun (t : Int × Bool × Unit) => some (if t.1 = 2 ∨ t.1 = 5 then t.2.1 else !t.2.1)) := by
  refine conT hg k47 ic47 (by decide) fun C t r h => ?_
  obtain ⟨x, b, u⟩ := t
  cases h
  simp +contextual only [go_sem, ↓reduceIte, Nat.reduceEqDiff, Nat.reduceAdd, Nat.reduceLeDiff, Nat.reduceLT, reduceCtorEq, c47, k47]
  (repeat' (first | apply And.intro | intro _)) <;> (try simp_all []) <;> (try omega)
def nextS (s a : Int) (late : Bool) : Int × Bool :=
  if a = 1 then (2, s == 1) else if a = 2 then (3, s == 2 || (s == 1 && late)) else if a = 3 then (4, s == 1 || s == 2 || s == 3) else if a = 4 then (5, s == 2 || s == 3) else if a = 5 then (6, s == 1 || s == 2 || s == 3) else (0, false)
theorem con48 {Φ : Specs} (hg : Idl.Good Tryz.prog Φ) : Contract Tryz.prog 48 (FT fun (t : Int × Int × Bool × Unit) => some (nextS t.1 t.2.1 t.2.2.1)) := by
  refine conT hg k48 ic48 (by decide) fun C t r h => ?_
  obtain ⟨x, y, b, u⟩ := t
  cases h
  simp +contextual only [go_sem, ↓reduceIte, Nat.reduceEqDiff, Nat.reduceAdd, Nat.reduceLeDiff, Nat.reduceLT, reduceCtorEq, c48, k48]
  (repeat' (first | apply And.intro | intro _)) <;> (try simp_all [nextS]) <;> (try omega)
def possD (d : Disp) (a now : Int) : Bool :=
  if a = 1 then d.state == 1 else if a = 2 then d.state == 2 || (d.state == 1 && decide (now ≥ IntKind.i64.wrap (d.opened + 43200))) else if a = 4 then d.state != 1 else true
theorem con55 {Φ : Specs} (hg : Idl.Good Tryz.prog Φ) : Contract Tryz.prog 55 (FT fun (t : Disp × Int × Int × Unit) => some (possD t.1 t.2.1 t.2.2.1)) := by
  refine conT hg k55 ic55 (by decide) fun C t r h => ?_
  obtain ⟨x, y, b, u⟩ := t
  cases h
  simp +contextual only [go_sem, ↓reduceIte, Nat.reduceEqDiff, Nat.reduceAdd, Nat.reduceLeDiff, Nat.reduceLT, reduceCtorEq, c55, k55]
  (repeat' (first | apply And.intro | intro _)) <;> (try simp_all [possD]) <;> (try omega)
def stateD (a : Int) : Int := if a = 1 then 2 else if a = 2 then 3 else if a = 3 then 4 else if a = 4 then 5 else 6
theorem con56 {Φ : Specs} (hg : Idl.Good Tryz.prog Φ) : Contract Tryz.prog 56 (FT fun (t : Int × Unit) => some (stateD t.1)) := by
  refine conT hg k56 ic56 (by decide) fun C t r h => ?_
  obtain ⟨x, u⟩ := t
  cases h
  simp +contextual only [go_sem, ↓reduceIte, Nat.reduceEqDiff, Nat.reduceAdd, Nat.reduceLeDiff, Nat.reduceLT, reduceCtorEq, c56, k56]
  (repeat' (first | apply And.intro | intro _)) <;> (try simp_all [stateD]) <;> (try omega)
def stepS (d : Disp) (x : ByteArray) (y z v : Int) : Disp × Int :=
  if validD d ≠ 0 then (d, validD d)
  else if okName x = false then (d, 4)
  else if rangeD (d, y, z, v, ()) = false then (d, 2)
  else if d.state ≥ 4 then (d, 10)
  else if ((y == 2 || y == 5) != decide (x = d.who)) = true then (d, 15)
  else if y = 1 ∧ v ≥ IntKind.i64.wrap (d.opened + 43200) then (d, 12)
  else if possD d y v = false then (d, 10)
  else (⟨d.cdr, d.who, stateD y, d.opened, d.claim, z⟩, 0)
theorem valid0 {d : Disp} (h : validD d = 0) : okName d.cdr = true ∧ okName d.who = true ∧ 1 ≤ d.state ∧ d.state ≤ 6 ∧ 0 ≤ d.opened ∧ d.opened ≤ 268435456 ∧ 1 ≤ d.claim ∧ d.claim ≤ 36028797018963968 ∧ 0 ≤ d.granted ∧ d.granted ≤ d.claim ∧ (d.granted = 0 ↔ d.state ≠ 4) := by
  unfold validD at h
  split at h
  · omega
  · split at h
    · omega
    · split at h
      · omega
      · rename_i h1 h2 h3
        simp at h1 h2 h3
        have : (d.granted = 0 ↔ d.state ≠ 4) := by
          by_cases a : d.granted = 0 <;> by_cases b : d.state = 4
          · simp_all
          · simp_all
          · simp_all
          · rw [beq_eq_false_iff_ne.2 a, show (d.state != 4) = true from by simpa using b] at h3; cases h3
        exact ⟨h1.1, h1.2, by omega, by omega, by omega, by omega, by omega, by omega, by omega, by omega, this⟩
theorem range1 {d : Disp} {y z v : Int} (h : rangeD (d, y, z, v, ()) = true) : 1 ≤ y ∧ y ≤ 5 ∧ d.opened ≤ v ∧ v ≤ 268435456 ∧ (y = 3 → 1 ≤ z ∧ z ≤ d.claim) ∧ (y ≠ 3 → z = 0) := by
  unfold rangeD at h
  by_cases h3 : y = 3 <;> simp [h3] at h ⊢ <;> omega
theorem con19 {Φ : Specs} (hg : Idl.Good Tryz.prog Φ) (h45 : Φ 45 = some (FT fun (t : Disp × Unit) => some (validD t.1))) (h30 : Φ 30 = some F30) (h46 : Φ 46 = some (FT fun t => some (rangeD t)))
    (h47 : Φ 47 = some (FT fun (t : Int × Bool × Unit) => some (if t.1 = 2 ∨ t.1 = 5 then t.2.1 else !t.2.1))) (h48 : Φ 48 = some (FT fun (t : Int × Int × Bool × Unit) => some (nextS t.1 t.2.1 t.2.2.1))) :
    Contract Tryz.prog 19 (FT fun (t : Disp × ByteArray × Int × Int × Int × Unit) => some (stepS t.1 t.2.1 t.2.2.1 t.2.2.2.1 t.2.2.2.2.1)) := by
  refine conT hg k19 ic19 (by decide) fun C t r h => ?_
  obtain ⟨d, x, y, z, v, u⟩ := t
  cases h
  simp +contextual only [go_sem, ↓reduceIte, Nat.reduceEqDiff, Nat.reduceAdd, Nat.reduceLeDiff, Nat.reduceLT, reduceCtorEq, c19, k19, h45, h30, F30, h46, h47, h48]
  unfold stepS
  refine ⟨fun h1 => ?_, fun h1 => ⟨fun h2 => ?_, fun h2 => ⟨fun h3 => ?_, fun h3 => ?_⟩⟩⟩
  · simp_all
  · simp_all
  · simp_all
  · have v0 := valid0 (d := d) (by simpa using h1)
    have r0 := range1 (d := d) (y := y) (z := z) (v := v) (by simpa using h3)
    rw [if_neg (by simpa using h1), if_neg (by simpa using h2), if_neg (by simpa using h3)]
    refine ⟨fun h4 => ?_, fun h4 => ?_⟩
    · rw [if_pos]
      simp at h4; omega
    · have h4' : ¬ d.state ≥ 4 := by simp at h4; omega
      rw [if_neg h4']
      have e5 : (!if y = 2 ∨ y = 5 then decide (x = d.who) else !decide (x = d.who)) = ((y == 2 || y == 5) != decide (x = d.who)) := by
        by_cases a : y = 2 ∨ y = 5
        · have : (y == 2 || y == 5) = true := by simpa using a
          rw [if_pos a, this]; cases decide (x = d.who) <;> rfl
        · have : (y == 2 || y == 5) = false := by simpa using a
          rw [if_neg a, this]; cases decide (x = d.who) <;> rfl
      rw [e5]
      have hg : d.granted = 0 := v0.2.2.2.2.2.2.2.2.2.2.2 (by omega)
      have e6 : (nextS d.state y (decide (v ≥ IntKind.i64.wrap (d.opened + 43200)))).2 = possD d y v := by
        unfold nextS possD
        obtain hy | hy | hy | hy | hy : y = 1 ∨ y = 2 ∨ y = 3 ∨ y = 4 ∨ y = 5 := by omega
        all_goals obtain hs | hs | hs : d.state = 1 ∨ d.state = 2 ∨ d.state = 3 := by omega
        all_goals simp [hy, hs]
      have e7 : (nextS d.state y (decide (v ≥ IntKind.i64.wrap (d.opened + 43200)))).1 = stateD y := by
        unfold nextS stateD
        obtain hy | hy | hy | hy | hy : y = 1 ∨ y = 2 ∨ y = 3 ∨ y = 4 ∨ y = 5 := by omega
        all_goals simp [hy]
      rw [e6, e7]
      refine ⟨fun h5 => ?_, fun h5 => ⟨fun h6 => ?_, fun h6 => ⟨fun h7 => ?_, fun h7 => ⟨fun h8 => ?_, fun h8 => ?_⟩⟩⟩⟩
      · rw [if_pos h5]
      · rw [if_neg (by simp [h5]), if_pos (by simpa using h6)]
      · rw [if_neg (by simp [h5]), if_neg (by simpa using h6), if_pos (by simpa using h7)]
      · rw [if_neg (by simp [h5]), if_neg (by simpa using h6), if_neg (by simpa using h7)]
      · rw [if_neg (by simp [h5]), if_neg (by simpa using h6), if_neg (by simpa using h7), hg, r0.2.2.2.2.2 (by simpa using h8)]
theorem con23 {Φ : Specs} (hg : Idl.Good Tryz.prog Φ) (h53 : Φ 53 = some (FT fun (t : Disp × Unit) => some (validD t.1))) (h49 : Φ 49 = some F30) (h54 : Φ 54 = some (FT fun t => some (rangeD t)))
    (h55 : Φ 55 = some (FT fun (t : Disp × Int × Int × Unit) => some (possD t.1 t.2.1 t.2.2.1))) (h56 : Φ 56 = some (FT fun (t : Int × Unit) => some (stateD t.1))) :
    Contract Tryz.prog 23 (FT fun (t : Disp × ByteArray × Int × Int × Int × Unit) => some (stepS t.1 t.2.1 t.2.2.1 t.2.2.2.1 t.2.2.2.2.1)) := by
  refine conT hg k23 ic23 (by decide) fun C t r h => ?_
  obtain ⟨d, x, y, z, v, u⟩ := t
  cases h
  simp +contextual only [go_sem, ↓reduceIte, Nat.reduceEqDiff, Nat.reduceAdd, Nat.reduceLeDiff, Nat.reduceLT, reduceCtorEq, c23, k23, h53, h49, F30, h54, h55, h56]
  unfold stepS
  refine ⟨fun h1 => ?_, fun h1 => ⟨fun h2 => ?_, fun h2 => ⟨fun h3 => ?_, fun h3 => ⟨fun h4 => ?_, fun h4 => ⟨fun h5 => ?_, fun h5 => ⟨fun h6 => ?_, fun h6 => ⟨fun h7 => ?_, fun h7 => ?_⟩⟩⟩⟩⟩⟩⟩ <;> simp_all
  rw [if_neg (by omega), if_neg (by omega)]
abbrev S19 : List V → Option V := FT fun (t : Disp × ByteArray × Int × Int × Int × Unit) => some (stepS t.1 t.2.1 t.2.2.1 t.2.2.2.1 t.2.2.2.2.1)
abbrev S45 : List V → Option V := FT fun (t : Disp × Unit) => some (validD t.1)
def openS (c : CdrD) (x : ByteArray) (claim now : Int) : Disp × Int :=
  bif cdrS c != 0 then (⟨⟨#[]⟩, ⟨#[]⟩, 0, 0, 0, 0⟩, cdrS c)
  else bif c.credit then (⟨⟨#[]⟩, ⟨#[]⟩, 0, 0, 0, 0⟩, 10)
  else bif !decide (x = c.provider) then (⟨⟨#[]⟩, ⟨#[]⟩, 0, 0, 0, 0⟩, 15)
  else bif decide (claim < 1) || decide (claim > c.total) || decide (claim > 36028797018963968) || decide (now < c.stop) || decide (now > 268435456) then (⟨⟨#[]⟩, ⟨#[]⟩, 0, 0, 0, 0⟩, 2)
  else bif decide (now > IntKind.i64.wrap (c.stop + 43200)) then (⟨⟨#[]⟩, ⟨#[]⟩, 0, 0, 0, 0⟩, 12)
  else (⟨c.id, x, 1, now, claim, 0⟩, 0)
theorem con27 {Φ : Specs} (hg : Idl.Good Tryz.prog Φ) (h38 : Φ 38 = some SCdr) : Contract Tryz.prog 27 (FT fun (t : CdrD × ByteArray × Int × Int × Unit) => some (openS t.1 t.2.1 t.2.2.1 t.2.2.2.1)) := by
  refine conT hg k27 ic27 (by decide) fun C t r h => ?_
  obtain ⟨c, x, y, z, u⟩ := t
  cases h
  simp +contextual only [go_sem, ↓reduceIte, Nat.reduceEqDiff, Nat.reduceAdd, Nat.reduceLeDiff, Nat.reduceLT, reduceCtorEq, c27, k27, h38]
  clear h38
  (repeat' (first | apply And.intro | intro _)) <;> simp only [openS, *, cond_true, cond_false]
theorem con29 {Φ : Specs} (hg : Idl.Good Tryz.prog Φ) (h57 : Φ 57 = some SCdrR) : Contract Tryz.prog 29 (FT fun (t : CdrD × ByteArray × Int × Int × Unit) => if t.1.currency.size ≤ 9223372036854775807 then some (openS t.1 t.2.1 t.2.2.1 t.2.2.2.1) else none) := by
  refine conT hg k29 ic29 (by decide) fun C t r h => ?_
  obtain ⟨c, x, y, z, u⟩ := t
  dsimp only at h
  split at h
  · rename_i hcur
    cases h
    simp +contextual only [go_sem, ↓reduceIte, Nat.reduceEqDiff, Nat.reduceAdd, Nat.reduceLeDiff, Nat.reduceLT, reduceCtorEq, c29, k29, h57, hcur]
    clear h57 hcur
    (repeat' (first | apply And.intro | intro _)) <;> simp only [openS, *, cond_true, cond_false]
  · cases h
abbrev SOpen : List V → Option V := FT fun (t : CdrD × ByteArray × Int × Int × Unit) => some (openS t.1 t.2.1 t.2.2.1 t.2.2.2.1)
abbrev SOpenR : List V → Option V := FT fun (t : CdrD × ByteArray × Int × Int × Unit) => if t.1.currency.size ≤ 9223372036854775807 then some (openS t.1 t.2.1 t.2.2.1 t.2.2.2.1) else none
end Go.Proofs.YtikmficjcbkhcaaGreat
