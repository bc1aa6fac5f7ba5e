/- The contracts of disputes: validity, steps. -/
import Derived.Test.YtkgjifofpejanaaCdr
namespace Go.Proofs.Ytkgjifofpejanaa
set_option linter.all false
open Go.Idl
set_option maxHeartbeats 4000000
set_option maxRecDepth 100000
attribute [local go_sem] Try.underlying3 Try.underlying5 Try.underlying9 Try.underlying21

def validD (d : Disp) : Int :=
  if !okName d.cdr || !okName d.who then 4
  else if decide (d.state < 1) || decide (d.state > 6) || decide (d.opened < 0) || decide (d.opened > 268435456) || decide (d.claim < 1) || decide (d.claim > 36028797018963968) || decide (d.granted < 0) || decide (d.granted > d.claim) then 2
  else if (d.granted == 0) != (d.state != 4) then 1 else 0
theorem con9 {Φ : Specs} (hg : Idl.Good Try.prog Φ) (h18 : Φ 18 = some F18) : Contract Try.prog 9 (FT fun (t : Disp × Unit) => some (validD t.1)) := by
  refine conT hg k9 ic9 (by decide) fun C t r h => ?_
  obtain ⟨d, u⟩ := t
  cases h
  simp +contextual only [go_sem, ↓reduceIte, Nat.reduceEqDiff, Nat.reduceAdd, Nat.reduceLeDiff, Nat.reduceLT, reduceCtorEq, c9, k9, h18, F18]
  unfold validD
  (repeat' (first | apply And.intro | intro _)) <;> simp_all
  all_goals (intros; omega)
theorem con10 {Φ : Specs} (hg : Idl.Good Try.prog Φ) (h19 : Φ 19 = some F18) : Contract Try.prog 10 (FT fun (t : Disp × Unit) => some (validD t.1)) := by
  refine conT hg k10 ic10 (by decide) fun C t r h => ?_
  obtain ⟨d, u⟩ := t
  cases h
  simp +contextual only [go_sem, ↓reduceIte, Nat.reduceEqDiff, Nat.reduceAdd, Nat.reduceLeDiff, Nat.reduceLT, reduceCtorEq, c10, k10, h19, F18]
  have e : ((d.granted == 0) != (d.state != 4)) = ((d.granted != 0) != (d.state == 4)) := by
    simp only [bne]; cases (d.granted == 0) <;> cases (d.state == 4) <;> rfl
  unfold validD
  rw [e]
  (repeat' (first | apply And.intro | intro _)) <;> simp_all
def shortD (d : Disp) : Bool := decide ((d.cdr.size : Int) ≤ 50) && decide ((d.who.size : Int) ≤ 50)
abbrev Aw : List V → Option V := FT fun (_ : Unit) => some true
theorem ag23 : agOf Try.prog 23 = some (some 6) := by kernel_rfl
attribute [local go_sem] ag23
def rangeD (t : Disp × Int × Int × Int × Unit) : Bool :=
  decide (1 ≤ t.2.1 ∧ t.2.1 ≤ 5 ∧ t.1.opened ≤ t.2.2.2.1 ∧ t.2.2.2.1 ≤ 268435456) && (if t.2.1 = 3 then decide (1 ≤ t.2.2.1 ∧ t.2.2.1 ≤ t.1.claim) else decide (t.2.2.1 = 0))
theorem con22 {Φ : Specs} (hg : Idl.Good Try.prog Φ) : Contract Try.prog 22 (FT fun t => some (rangeD t)) := by
  refine conT hg k22 ic22 (by decide) fun C t r h => ?_
  obtain ⟨d, x, y, z, u⟩ := t
  cases h
  simp +contextual only [go_sem, ↓reduceIte, Nat.reduceEqDiff, Nat.reduceAdd, Nat.reduceLeDiff, Nat.reduceLT, reduceCtorEq, c22, k22]
  by_cases h3 : x = 3
  · subst h3; (repeat' (first | apply And.intro | intro _)) <;> (try simp_all [rangeD]) <;> (try omega)
  · (repeat' (first | apply And.intro | intro _)) <;> (try simp_all [rangeD]) <;> (try omega)
theorem con25 {Φ : Specs} (hg : Idl.Good Try.prog Φ) : Contract Try.prog 25 (FT fun t => some (rangeD t)) := by
  refine conT hg k25 ic25 (by decide) fun C t r h => ?_
  obtain ⟨d, x, y, z, u⟩ := t
  cases h
  simp +contextual only [go_sem, ↓reduceIte, Nat.reduceEqDiff, Nat.reduceAdd, Nat.reduceLeDiff, Nat.reduceLT, reduceCtorEq, c25, k25]
  have e0 : (y == 0) = decide (y = 0) := rfl
  by_cases h3 : x = 3
  · subst h3; (repeat' (first | apply And.intro | intro _)) <;> (try simp_all [rangeD]) <;> (try omega)
  · (repeat' (first | apply And.intro | intro _)) <;> (try simp_all [rangeD]) <;> (try omega)
theorem con23 {Φ : Specs} (hg : Idl.Good Try.prog Φ) : Contract Try.prog 23 (FT fun (t : Int × Bool × Unit) => some (if t.1 = 2 ∨ t.1 = 5 then t.2.1 else !t.2.1)) := by
  refine conT hg k23 ic23 (by decide) fun C t r h => ?_
  obtain ⟨x, b, u⟩ := t
  cases h
  simp +contextual only [go_sem, ↓reduceIte, Nat.reduceEqDiff, Nat.reduceAdd, Nat.reduceLeDiff, Nat.reduceLT, reduceCtorEq, c23, k23]
  (repeat' (first | apply And.intro | intro _)) <;> (try simp_all []) <;> (try omega)
def nextS (s a : Int) (late : Bool) : Int × Bool :=
  if a = 1 then (2, s == 1) else if a = 2 then (3, s == 2 || (s == 1 && late)) else if a = 3 then (4, s == 1 || s == 2 || s == 3) else if a = 4 then (5, s == 2 || s == 3) else if a = 5 then (6, s == 1 || s == 2 || s == 3) else (0, false)
theorem con24 {Φ : Specs} (hg : Idl.Good Try.prog Φ) : Contract Try.prog 24 (FT fun (t : Int × Int × Bool × Unit) => some (nextS t.1 t.2.1 t.2.2.1)) := by
  refine conT hg k24 ic24 (by decide) fun C t r h => ?_
  obtain ⟨x, y, b, u⟩ := t
  cases h
  simp +contextual only [go_sem, ↓reduceIte, Nat.reduceEqDiff, Nat.reduceAdd, Nat.reduceLeDiff, Nat.reduceLT, reduceCtorEq, c24, k24]
  (repeat' (first | apply And.intro | intro _)) <;> (try simp_all [nextS]) <;> (try omega)
def possD (d : Disp) (a now : Int) : Bool :=
  if a = 1 then d.state == 1 else if a = 2 then d.state == 2 || (d.state == 1 && decide (now ≥ IntKind.i64.wrap (d.opened + 43200))) else if a = 4 then d.state != 1 else true
theorem con26 {Φ : Specs} (hg : Idl.Good Try.prog Φ) : Contract Try.prog 26 (FT fun (t : Disp × Int × Int × Unit) => some (possD t.1 t.2.1 t.2.2.1)) := by
  refine conT hg k26 ic26 (by decide) fun C t r h => ?_
  obtain ⟨x, y, b, u⟩ := t
  cases h
  simp +contextual only [go_sem, ↓reduceIte, Nat.reduceEqDiff, Nat.reduceAdd, Nat.reduceLeDiff, Nat.reduceLT, reduceCtorEq, c26, k26]
  (repeat' (first | apply And.intro | intro _)) <;> (try simp_all [possD]) <;> (try omega)
def stateD (a : Int) : Int := if a = 1 then 2 else if a = 2 then 3 else if a = 3 then 4 else if a = 4 then 5 else 6
theorem con27 {Φ : Specs} (hg : Idl.Good Try.prog Φ) : Contract Try.prog 27 (FT fun (t : Int × Unit) => some (stateD t.1)) := by
  refine conT hg k27 ic27 (by decide) fun C t r h => ?_
  obtain ⟨x, u⟩ := t
  cases h
  simp +contextual only [go_sem, ↓reduceIte, Nat.reduceEqDiff, Nat.reduceAdd, Nat.reduceLeDiff, Nat.reduceLT, reduceCtorEq, c27, k27]
  (repeat' (first | apply And.intro | intro _)) <;> (try simp_all [stateD]) <;> (try omega)

def stepS (d : Disp) (x : ByteArray) (y z v : Int) : Disp × Int :=
  if validD d ≠ 0 then (d, validD d)
  else if okName x = false then (d, 4)
  else if rangeD (d, y, z, v, ()) = false then (d, 2)
  else if d.state ≥ 4 then (d, 10)
  else if ((y == 2 || y == 5) != decide (x = d.who)) = true then (d, 15)
  else if y = 1 ∧ v ≥ IntKind.i64.wrap (d.opened + 43200) then (d, 12)
  else if possD d y v = false then (d, 10)
  else (⟨d.cdr, d.who, stateD y, d.opened, d.claim, z⟩, 0)
theorem valid0 {d : Disp} (h : validD d = 0) : okName d.cdr = true ∧ okName d.who = true ∧ 1 ≤ d.state ∧ d.state ≤ 6 ∧ 0 ≤ d.opened ∧ d.opened ≤ 268435456 ∧ 1 ≤ d.claim ∧ d.claim ≤ 36028797018963968 ∧ 0 ≤ d.granted ∧ d.granted ≤ d.claim ∧ (d.granted = 0 ↔ d.state ≠ 4) := by
  unfold validD at h
  split at h
  · omega
  · split at h
    · omega
    · split at h
      · omega
      · rename_i h1 h2 h3
        simp at h1 h2 h3
        have : (d.granted = 0 ↔ d.state ≠ 4) := by
          by_cases a : d.granted = 0 <;> by_cases b : d.state = 4
          · simp_all
          · simp_all
          · simp_all
          · rw [beq_eq_false_iff_ne.2 a, show (d.state != 4) = true from by simpa using b] at h3; cases h3
        exact ⟨h1.1, h1.2, by omega, by omega, by omega, by omega, by omega, by omega, by omega, by omega, this⟩
theorem range1 {d : Disp} {y z v : Int} (h : rangeD (d, y, z, v, ()) = true) : 1 ≤ y ∧ y ≤ 5 ∧ d.opened ≤ v ∧ v ≤ 268435456 ∧ (y = 3 → 1 ≤ z ∧ z ≤ d.claim) ∧ (y ≠ 3 → z = 0) := by
  unfold rangeD at h
  by_cases h3 : y = 3 <;> simp [h3] at h ⊢ <;> omega
theorem con14 {Φ : Specs} (hg : Idl.Good Try.prog Φ) (h9 : Φ 9 = some (FT fun (t : Disp × Unit) => some (validD t.1))) (h18 : Φ 18 = some F18) (h22 : Φ 22 = some (FT fun t => some (rangeD t)))
    (h23 : Φ 23 = some (FT fun (t : Int × Bool × Unit) => some (if t.1 = 2 ∨ t.1 = 5 then t.2.1 else !t.2.1))) (h24 : Φ 24 = some (FT fun (t : Int × Int × Bool × Unit) => some (nextS t.1 t.2.1 t.2.2.1))) :
    Contract Try.prog 14 (FT fun (t : Disp × ByteArray × Int × Int × Int × Unit) => some (stepS t.1 t.2.1 t.2.2.1 t.2.2.2.1 t.2.2.2.2.1)) := by
  refine conT hg k14 ic14 (by decide) fun C t r h => ?_
  obtain ⟨d, x, y, z, v, u⟩ := t
  cases h
  simp +contextual only [go_sem, ↓reduceIte, Nat.reduceEqDiff, Nat.reduceAdd, Nat.reduceLeDiff, Nat.reduceLT, reduceCtorEq, c14, k14, h9, h18, F18, h22, h23, h24]
  unfold stepS
  refine ⟨fun h1 => ?_, fun h1 => ⟨fun h2 => ?_, fun h2 => ⟨fun h3 => ?_, fun h3 => ?_⟩⟩⟩
  · simp_all
  · simp_all
  · simp_all
  · have v0 := valid0 (d := d) (by simpa using h1)
    have r0 := range1 (d := d) (y := y) (z := z) (v := v) (by simpa using h3)
    rw [if_neg (by simpa using h1), if_neg (by simpa using h2), if_neg (by simpa using h3)]
    refine ⟨fun h4 => ?_, fun h4 => ?_⟩
    · rw [if_pos]
      simp at h4; omega
    · have h4' : ¬ d.state ≥ 4 := by simp at h4; omega
      rw [if_neg h4']
      have e5 : (!if y = 2 ∨ y = 5 then decide (x = d.who) else !decide (x = d.who)) = ((y == 2 || y == 5) != decide (x = d.who)) := by
        by_cases a : y = 2 ∨ y = 5
        · have : (y == 2 || y == 5) = true := by simpa using a
          rw [if_pos a, this]; cases decide (x = d.who) <;> rfl
        · have : (y == 2 || y == 5) = false := by simpa using a
          rw [if_neg a, this]; cases decide (x = d.who) <;> rfl
      rw [e5]
      have hg : d.granted = 0 := v0.2.2.2.2.2.2.2.2.2.2.2 (by omega)
      have e6 : (nextS d.state y (decide (v ≥ IntKind.i64.wrap (d.opened + 43200)))).2 = possD d y v := by
        unfold nextS possD
        obtain hy | hy | hy | hy | hy : y = 1 ∨ y = 2 ∨ y = 3 ∨ y = 4 ∨ y = 5 := by omega
        all_goals obtain hs | hs | hs : d.state = 1 ∨ d.state = 2 ∨ d.state = 3 := by omega
        all_goals simp [hy, hs]
      have e7 : (nextS d.state y (decide (v ≥ IntKind.i64.wrap (d.opened + 43200)))).1 = stateD y := by
        unfold nextS stateD
        obtain hy | hy | hy | hy | hy : y = 1 ∨ y = 2 ∨ y = 3 ∨ y = 4 ∨ y = 5 := by omega
        all_goals simp [hy]
      rw [e6, e7]
      refine ⟨fun h5 => ?_, fun h5 => ⟨fun h6 => ?_, fun h6 => ⟨fun h7 => ?_, fun h7 => ⟨fun h8 => ?_, fun h8 => ?_⟩⟩⟩⟩
      · rw [if_pos h5]
      · rw [if_neg (by simp [h5]), if_pos (by simpa using h6)]
      · rw [if_neg (by simp [h5]), if_neg (by simpa using h6), if_pos (by simpa using h7)]
      · rw [if_neg (by simp [h5]), if_neg (by simpa using h6), if_neg (by simpa using h7)]
      · rw [if_neg (by simp [h5]), if_neg (by simpa using h6), if_neg (by simpa using h7), hg, r0.2.2.2.2.2 (by simpa using h8)]
theorem con15 {Φ : Specs} (hg : Idl.Good Try.prog Φ) (h10 : Φ 10 = some (FT fun (t : Disp × Unit) => some (validD t.1))) (h19 : Φ 19 = some F18) (h25 : Φ 25 = some (FT fun t => some (rangeD t)))
    (h26 : Φ 26 = some (FT fun (t : Disp × Int × Int × Unit) => some (possD t.1 t.2.1 t.2.2.1))) (h27 : Φ 27 = some (FT fun (t : Int × Unit) => some (stateD t.1))) :
    Contract Try.prog 15 (FT fun (t : Disp × ByteArray × Int × Int × Int × Unit) => some (stepS t.1 t.2.1 t.2.2.1 t.2.2.2.1 t.2.2.2.2.1)) := by
  refine conT hg k15 ic15 (by decide) fun C t r h => ?_
  obtain ⟨d, x, y, z, v, u⟩ := t
  cases h
  simp +contextual only [go_sem, ↓reduceIte, Nat.reduceEqDiff, Nat.reduceAdd, Nat.reduceLeDiff, Nat.reduceLT, reduceCtorEq, c15, k15, h10, h19, F18, h25, h26, h27]
  unfold stepS
  refine ⟨fun h1 => ?_, fun h1 => ⟨fun h2 => ?_, fun h2 => ⟨fun h3 => ?_, fun h3 => ⟨fun h4 => ?_, fun h4 => ⟨fun h5 => ?_, fun h5 => ⟨fun h6 => ?_, fun h6 => ⟨fun h7 => ?_, fun h7 => ?_⟩⟩⟩⟩⟩⟩⟩ <;> simp_all
  rw [if_neg (by omega), if_neg (by omega)]
abbrev S14 : List V → Option V := FT fun (t : Disp × ByteArray × Int × Int × Int × Unit) => some (stepS t.1 t.2.1 t.2.2.1 t.2.2.2.1 t.2.2.2.2.1)
abbrev S9 : List V → Option V := FT fun (t : Disp × Unit) => some (validD t.1)
theorem eq23 : eqInfo Try.prog 23 = some [.s, .s, .i .i64, .i .i64, .i .i64, .i .i64] := by kernel_rfl
attribute [local go_sem] eq23
theorem valid_of {d : Disp} (h : okName d.cdr = true ∧ okName d.who = true ∧ 1 ≤ d.state ∧ d.state ≤ 6 ∧ 0 ≤ d.opened ∧ d.opened ≤ 268435456 ∧ 1 ≤ d.claim ∧ d.claim ≤ 36028797018963968 ∧ 0 ≤ d.granted ∧ d.granted ≤ d.claim ∧ (d.granted = 0 ↔ d.state ≠ 4)) : validD d = 0 := by
  obtain ⟨h1, h2, h3, h4, h5, h6, h7, h8, h9, h10, h11⟩ := h
  unfold validD
  rw [if_neg (by simp [h1, h2]), if_neg (by simp; omega), if_neg]
  by_cases a : d.granted = 0
  · simp [a, h11.1 a]
  · have b : d.state = 4 := by
      by_cases b : d.state = 4
      · exact b
      · exact absurd (h11.2 b) a
    simp [a, b]
theorem step_ok {d : Disp} {x : ByteArray} {y z v : Int} (h : (stepS d x y z v).2 = 0) : validD d = 0 ∧ okName x = true ∧ rangeD (d, y, z, v, ()) = true ∧ d.state < 4 ∧ (y == 2 || y == 5) = decide (x = d.who) ∧ possD d y v = true ∧
    stepS d x y z v = (⟨d.cdr, d.who, stateD y, d.opened, d.claim, z⟩, 0) := by
  unfold stepS at h ⊢
  split at h
  · rename_i h1; exact absurd h h1
  · rename_i h1
    rw [if_neg h1]
    split at h
    · cases h
    · rename_i h2
      rw [if_neg h2]
      split at h
      · cases h
      · rename_i h3
        rw [if_neg h3]
        split at h
        · cases h
        · rename_i h4
          rw [if_neg h4]
          split at h
          · cases h
          · rename_i h5
            rw [if_neg h5]
            split at h
            · cases h
            · rename_i h6
              rw [if_neg h6]
              split at h
              · cases h
              · rename_i h7
                rw [if_neg h7]
                exact ⟨by simpa using h1, by simpa using h2, by simpa using h3, by omega, by simpa using h5, by simpa using h7, rfl⟩
theorem step_same {d : Disp} {x : ByteArray} {y z v : Int} (h : ¬ (stepS d x y z v).2 = 0) : stepS d x y z v = (d, (stepS d x y z v).2) := by
  revert h
  unfold stepS
  (repeat' split) <;> simp
theorem stateD_in (y : Int) : 2 ≤ stateD y ∧ stateD y ≤ 6 ∧ (stateD y = 4 ↔ y = 3) := by
  unfold stateD
  (repeat' split) <;> omega
theorem step_valid {d : Disp} {x : ByteArray} {y z v : Int} (h : (stepS d x y z v).2 = 0) : validD (stepS d x y z v).1 = 0 := by
  obtain ⟨h1, h2, h3, h4, h5, h6, h7⟩ := step_ok h
  rw [h7]
  obtain ⟨v1, v2, v3, v4, v5, v6, v7, v8, v9, v10, v11⟩ := valid0 h1
  obtain ⟨r1, r2, r3, r4, r5, r6⟩ := range1 h3
  obtain ⟨s1, s2, s3⟩ := stateD_in y
  refine valid_of ⟨v1, v2, ?_, ?_, v5, v6, v7, v8, ?_, ?_, ?_⟩ <;> dsimp only
  · omega
  · omega
  · by_cases e : y = 3
    · have := r5 e; omega
    · have := r6 e; omega
  · by_cases e : y = 3
    · have := r5 e; omega
    · have := r6 e; omega
  · by_cases e : y = 3
    · have := r5 e; have := s3.2 e; constructor <;> omega
    · have := r6 e
      have h4 : stateD y ≠ 4 := fun h => e (s3.1 h)
      simp [this, h4]

def openS (c : CdrD) (x : ByteArray) (claim now : Int) : Disp × Int :=
  bif cdrS c != 0 then (⟨⟨#[]⟩, ⟨#[]⟩, 0, 0, 0, 0⟩, cdrS c)
  else bif c.credit then (⟨⟨#[]⟩, ⟨#[]⟩, 0, 0, 0, 0⟩, 10)
  else bif !decide (x = c.provider) then (⟨⟨#[]⟩, ⟨#[]⟩, 0, 0, 0, 0⟩, 15)
  else bif decide (claim < 1) || decide (claim > c.total) || decide (claim > 36028797018963968) || decide (now < c.stop) || decide (now > 268435456) then (⟨⟨#[]⟩, ⟨#[]⟩, 0, 0, 0, 0⟩, 2)
  else bif decide (now > IntKind.i64.wrap (c.stop + 43200)) then (⟨⟨#[]⟩, ⟨#[]⟩, 0, 0, 0, 0⟩, 12)
  else (⟨c.id, x, 1, now, claim, 0⟩, 0)
theorem con12 {Φ : Specs} (hg : Idl.Good Try.prog Φ) (h20 : Φ 20 = some SCdr) : Contract Try.prog 12 (FT fun (t : CdrD × ByteArray × Int × Int × Unit) => some (openS t.1 t.2.1 t.2.2.1 t.2.2.2.1)) := by
  refine conT hg k12 ic12 (by decide) fun C t r h => ?_
  obtain ⟨c, x, y, z, u⟩ := t
  cases h
  simp +contextual only [go_sem, ↓reduceIte, Nat.reduceEqDiff, Nat.reduceAdd, Nat.reduceLeDiff, Nat.reduceLT, reduceCtorEq, c12, k12, h20]
  clear h20
  (repeat' (first | apply And.intro | intro _)) <;> simp only [openS, *, cond_true, cond_false]
theorem con13 {Φ : Specs} (hg : Idl.Good Try.prog Φ) (h21 : Φ 21 = some SCdrR) : Contract Try.prog 13 (FT fun (t : CdrD × ByteArray × Int × Int × Unit) => if t.1.currency.size ≤ 1000000 then some (openS t.1 t.2.1 t.2.2.1 t.2.2.2.1) else none) := by
  refine conT hg k13 ic13 (by decide) fun C t r h => ?_
  obtain ⟨c, x, y, z, u⟩ := t
  dsimp only at h
  split at h
  · rename_i hcur
    cases h
    simp +contextual only [go_sem, ↓reduceIte, Nat.reduceEqDiff, Nat.reduceAdd, Nat.reduceLeDiff, Nat.reduceLT, reduceCtorEq, c13, k13, h21, hcur]
    clear h21 hcur
    (repeat' (first | apply And.intro | intro _)) <;> simp only [openS, *, cond_true, cond_false]
  · cases h
def amountS (id : ByteArray) (total : Int) : List Disp → Int
  | [] => total
  | d :: l => if d.cdr = id ∧ d.state = 4 then IntKind.i64.wrap (total - d.granted) else amountS id total l
theorem con16 {Φ : Specs} (hg : Idl.Good Try.prog Φ) : Contract Try.prog 16 (FT fun (t : CdrD × List Disp × Unit) => if t.2.1.length ≤ 1000000 then some (amountS t.1.id t.1.total t.2.1) else none) := by
  refine conT hg k16 ic16 (by decide) fun C t r h => ?_
  obtain ⟨c, l, u⟩ := t
  dsimp only at h
  split at h
  · rename_i hl
    cases h
    simp +contextual only [go_sem, ↓reduceIte, Nat.reduceEqDiff, Nat.reduceAdd, Nat.reduceLeDiff, Nat.reduceLT, reduceCtorEq, c16, k16, List.length_map]
    refine TriI.loopL hg k16 l (fun i (_ : Unit) => ⟨slotsL [(2, .ref 0 0 0), (7, Cod.enc l), (8, .sc (.int .i64 l.length)), (9, .sc (.int .i64 i))], objsL [.live 14 [Cod.enc c] true], 1⟩)
      (fun xs _ => amountS c.id c.total xs = amountS c.id c.total l) () (.back rfl ?_) rfl ?_ ?_
    · simp +contextual only [go_sem, ↓reduceIte, Nat.reduceEqDiff, Nat.reduceAdd, Nat.reduceLeDiff, Nat.reduceLT, reduceCtorEq]
      rfl
    · intro _ hinv
      simp +contextual only [go_sem, ↓reduceIte, Nat.reduceEqDiff, Nat.reduceAdd, Nat.reduceLeDiff, Nat.reduceLT, reduceCtorEq, k16, Int.lt_irrefl, decide_false]
      exact hinv
    · intro i _ x xs hd hlt hx hinv
      have hw := wrap_nat hlt (by omega)
      simp +contextual only [go_sem, ↓reduceIte, Nat.reduceEqDiff, Nat.reduceAdd, Nat.reduceLeDiff, Nat.reduceLT, reduceCtorEq, k16, lt_dec hlt, hx, List.getElem?_map, Option.map_some, Int.natCast_nonneg, Int.toNat_natCast]
      refine ⟨fun h => ?_, fun h => ⟨(), ?_, .back rfl ?_⟩⟩
      · rw [← hinv, amountS, if_pos (by simpa using h)]
      · dsimp only; rw [← hinv, amountS, if_neg (by simpa using h)]
      · simp +contextual only [go_sem, ↓reduceIte, Nat.reduceEqDiff, Nat.reduceAdd, Nat.reduceLeDiff, Nat.reduceLT, reduceCtorEq, hw]
  · cases h
abbrev SOpen : List V → Option V := FT fun (t : CdrD × ByteArray × Int × Int × Unit) => some (openS t.1 t.2.1 t.2.2.1 t.2.2.2.1)
abbrev SOpenR : List V → Option V := FT fun (t : CdrD × ByteArray × Int × Int × Unit) => if t.1.currency.size ≤ 1000000 then some (openS t.1 t.2.1 t.2.2.1 t.2.2.2.1) else none
abbrev SAmount : List V → Option V := FT fun (t : CdrD × List Disp × Unit) => if t.2.1.length ≤ 1000000 then some (amountS t.1.id t.1.total t.2.1) else none
theorem open_ok {c : CdrD} {x : ByteArray} {y z : Int} (h : (openS c x y z).2 = 0) : cdrS c = 0 ∧ x = c.provider ∧ 1 ≤ y ∧ y ≤ c.total ∧ y ≤ 36028797018963968 ∧ c.stop ≤ z ∧ z ≤ 268435456 ∧ openS c x y z = (⟨c.id, x, 1, z, y, 0⟩, 0) := by
  unfold openS at h ⊢
  cases h1 : (cdrS c != 0) <;> simp only [h1, cond_true, cond_false] at h ⊢
  · cases h2 : c.credit <;> simp only [h2, cond_true, cond_false] at h ⊢
    · cases h3 : (!decide (x = c.provider)) <;> simp only [h3, cond_true, cond_false] at h ⊢
      · cases h4 : (decide (y < 1) || decide (y > c.total) || decide (y > 36028797018963968) || decide (z < c.stop) || decide (z > 268435456)) <;> simp only [h4, cond_true, cond_false] at h ⊢
        · cases h5 : decide (z > IntKind.i64.wrap (c.stop + 43200)) <;> simp only [h5, cond_true, cond_false] at h ⊢
          · simp at h1 h3 h4
            exact ⟨h1, h3, by omega, by omega, by omega, by omega, by omega, trivial⟩
          · cases h
        · cases h
      · cases h
    · cases h
  · simp at h1; exact absurd h h1
theorem names0 {l : List ByteArray} (h : namesS l = 0) : ∀ x ∈ l, okName x = true := by
  unfold namesS at h
  split at h
  · rename_i ha; simpa using ha
  · cases h
theorem cdr_ok {c : CdrD} (h : cdrS c = 0) : okName c.id = true ∧ okName c.provider = true ∧ 0 ≤ c.start ∧ c.start ≤ c.stop ∧ c.stop ≤ 268435456 := by
  unfold cdrS at h
  cases h1 : (namesS [c.id, c.operator, c.provider, c.session, c.tariff] != 0) <;> simp only [h1, cond_true, cond_false] at h
  · have hn := names0 (l := [c.id, c.operator, c.provider, c.session, c.tariff]) (by simpa using h1)
    cases h2 : decide (c.operator = c.provider) <;> simp only [h2, cond_true, cond_false] at h
    · cases h3 : (!rangeC c) <;> simp only [h3, cond_true, cond_false] at h
      · simp [rangeC, inR] at h3
        exact ⟨hn _ (by simp), hn _ (by simp), by omega, by omega, by omega⟩
      · cases h
    · cases h
  · simp at h1; exact absurd h h1
theorem open_valid {c : CdrD} {x : ByteArray} {y z : Int} (h : (openS c x y z).2 = 0) : validD (openS c x y z).1 = 0 := by
  obtain ⟨h1, h2, h3, h4, h5, h6, h7, h8⟩ := open_ok h
  obtain ⟨n1, n2, n3, n4, n5⟩ := cdr_ok h1
  rw [h8]
  refine valid_of ⟨n1, by rw [h2]; exact n2, ?_, ?_, ?_, ?_, ?_, ?_, ?_, ?_, ?_⟩ <;> dsimp only <;> omega
end Go.Proofs.Ytkgjifofpejanaa
