/- The contracts of disputes: validity, steps. -/
import Derived.Test.YtalhbhbkdfmhgaaCdr
namespace Go.Proofs.Ytalhbhbkdfmhgaa
set_option linter.all false
open Go.Idl
set_option maxHeartbeats 4000000
set_option maxRecDepth 100000
attribute [local go_sem] Try.underlying3 Try.underlying5 Try.underlying9 Try.underlying21
def validD (d : Disp) : Int :=
  if !okName d.cdr || !okName d.who then 4
  else if decide (d.state < 1) || decide (d.state > 6) || decide (d.opened < 0) || decide (d.opened > 268435456) || decide (d.claim < 1) || decide (d.claim > 36028797018963968) || decide (d.granted < 0) || decide (d.granted > d.claim) then 2
  else if (d.granted == 0) != (d.state != 4) then 1 else 0
theorem con53 {Φ : Specs} (hg : Idl.Good Try.prog Φ) (h12 : Φ 12 = some F12) : Contract Try.prog 53 (FT fun (t : Disp × Unit) => some (validD t.1)) := by
  refine conT hg k53 ic53 (by decide) fun C t r h => ?_
  obtain ⟨d, u⟩ := t
  cases h
  simp +contextual only [go_sem, ↓reduceIte, Nat.reduceEqDiff, Nat.reduceAdd, Nat.reduceLeDiff, Nat.reduceLT, reduceCtorEq, c53, k53, h12, F12]
  unfold validD
  (repeat' (first | apply And.intro | intro _)) <;> simp_all
  all_goals (intros; omega)
theorem ag23 : agOf Try.prog 78 = some (some 6) := by kernel_rfl
attribute [local go_sem] ag23
def rangeD (t : Disp × Int × Int × Int × Unit) : Bool :=
  decide (1 ≤ t.2.1 ∧ t.2.1 ≤ 5 ∧ t.1.opened ≤ t.2.2.2.1 ∧ t.2.2.2.1 ≤ 268435456) && (if t.2.1 = 3 then decide (1 ≤ t.2.2.1 ∧ t.2.2.1 ≤ t.1.claim) else decide (t.2.2.1 = 0))
theorem con60 {Φ : Specs} (hg : Idl.Good Try.prog Φ) : Contract Try.prog 60 (FT fun t => some (rangeD t)) := by
  refine conT hg k60 ic60 (by decide) fun C t r h => ?_
  obtain ⟨d, x, y, z, u⟩ := t
  cases h
  simp +contextual only [go_sem, ↓reduceIte, Nat.reduceEqDiff, Nat.reduceAdd, Nat.reduceLeDiff, Nat.reduceLT, reduceCtorEq, c60, k60]
  by_cases h3 : x = 3
  · subst h3; (repeat' (first | apply And.intro | intro _)) <;> (try simp_all [rangeD]) <;> (try omega)
  · (repeat' (first | apply And.intro | intro _)) <;> (try simp_all [rangeD]) <;> (try omega)
theorem con61 {Φ : Specs} (hg : Idl.Good Try.prog Φ) : Contract Try.prog 61 (FT fun (t : Int × Bool × Unit) => some (if t.1 = 2 ∨ t.1 = 5 then t.2.1 else !t.2.1)) := by
  refine conT hg k61 ic61 (by decide) fun C t r h => ?_
  obtain ⟨x, b, u⟩ := t
  cases h
  simp +contextual only [go_sem, ↓reduceIte, Nat.reduceEqDiff, Nat.reduceAdd, Nat.reduceLeDiff, Nat.reduceLT, reduceCtorEq, c61, k61]
  (repeat' (first | apply And.intro | intro _)) <;> (try simp_all []) <;> (try omega)
def nextS (s a : Int) (late : Bool) : Int × Bool :=
  if a = 1 then (2, s == 1) else if a = 2 then (3, s == 2 || (s == 1 && late)) else if a = 3 then (4, s == 1 || s == 2 || s == 3) else if a = 4 then (5, s == 2 || s == 3) else if a = 5 then (6, s == 1 || s == 2 || s == 3) else (0, false)
theorem con62 {Φ : Specs} (hg : Idl.Good Try.prog Φ) : Contract Try.prog 62 (FT fun (t : Int × Int × Bool × Unit) => some (nextS t.1 t.2.1 t.2.2.1)) := by
  refine conT hg k62 ic62 (by decide) fun C t r h => ?_
  obtain ⟨x, y, b, u⟩ := t
  cases h
  simp +contextual only [go_sem, ↓reduceIte, Nat.reduceEqDiff, Nat.reduceAdd, Nat.reduceLeDiff, Nat.reduceLT, reduceCtorEq, c62, k62]
  (repeat' (first | apply And.intro | intro _)) <;> (try simp_all [nextS]) <;> (try omega)
def possD (d : Disp) (a now : Int) : Bool :=
  if a = 1 then d.state == 1 else if a = 2 then d.state == 2 || (d.state == 1 && decide (now ≥ IntKind.i64.wrap (d.opened + 43200))) else if a = 4 then d.state != 1 else true
def stateD (a : Int) : Int := if a = 1 then 2 else if a = 2 then 3 else if a = 3 then 4 else if a = 4 then 5 else 6
def stepS (d : Disp) (x : ByteArray) (y z v : Int) : Disp × Int :=
  if validD d ≠ 0 then (d, validD d)
  else if okName x = false then (d, 4)
  else if rangeD (d, y, z, v, ()) = false then (d, 2)
  else if d.state ≥ 4 then (d, 10)
  else if ((y == 2 || y == 5) != decide (x = d.who)) = true then (d, 15)
  else if y = 1 ∧ v ≥ IntKind.i64.wrap (d.opened + 43200) then (d, 12)
  else if possD d y v = false then (d, 10)
  else (⟨d.cdr, d.who, stateD y, d.opened, d.claim, z⟩, 0)
theorem valid0 {d : Disp} (h : validD d = 0) : okName d.cdr = true ∧ okName d.who = true ∧ 1 ≤ d.state ∧ d.state ≤ 6 ∧ 0 ≤ d.opened ∧ d.opened ≤ 268435456 ∧ 1 ≤ d.claim ∧ d.claim ≤ 36028797018963968 ∧ 0 ≤ d.granted ∧ d.granted ≤ d.claim ∧ (d.granted = 0 ↔ d.state ≠ 4) := by
  unfold validD at h
  split at h
  · omega
  · split at h
    · omega
    · split at h
      · omega
      · rename_i h1 h2 h3
        simp at h1 h2 h3
        have : (d.granted = 0 ↔ d.state ≠ 4) := by
          by_cases a : d.granted = 0 <;> by_cases b : d.state = 4
          · simp_all
          · simp_all
          · simp_all
          · rw [beq_eq_false_iff_ne.2 a, show (d.state != 4) = true from by simpa using b] at h3; cases h3
        exact ⟨h1.1, h1.2, by omega, by omega, by omega, by omega, by omega, by omega, by omega, by omega, this⟩
theorem range1 {d : Disp} {y z v : Int} (h : rangeD (d, y, z, v, ()) = true) : 1 ≤ y ∧ y ≤ 5 ∧ d.opened ≤ v ∧ v ≤ 268435456 ∧ (y = 3 → 1 ≤ z ∧ z ≤ d.claim) ∧ (y ≠ 3 → z = 0) := by
  unfold rangeD at h
  by_cases h3 : y = 3 <;> simp [h3] at h ⊢ <;> omega
theorem con47 {Φ : Specs} (hg : Idl.Good Try.prog Φ) (h53 : Φ 53 = some (FT fun (t : Disp × Unit) => some (validD t.1))) (h12 : Φ 12 = some F12) (h60 : Φ 60 = some (FT fun t => some (rangeD t)))
    (h61 : Φ 61 = some (FT fun (t : Int × Bool × Unit) => some (if t.1 = 2 ∨ t.1 = 5 then t.2.1 else !t.2.1))) (h62 : Φ 62 = some (FT fun (t : Int × Int × Bool × Unit) => some (nextS t.1 t.2.1 t.2.2.1))) :
    Contract Try.prog 47 (FT fun (t : Disp × ByteArray × Int × Int × Int × Unit) => some (stepS t.1 t.2.1 t.2.2.1 t.2.2.2.1 t.2.2.2.2.1)) := by
  refine conT hg k47 ic47 (by decide) fun C t r h => ?_
  obtain ⟨d, x, y, z, v, u⟩ := t
  cases h
  simp +contextual only [go_sem, ↓reduceIte, Nat.reduceEqDiff, Nat.reduceAdd, Nat.reduceLeDiff, Nat.reduceLT, reduceCtorEq, c47, k47, h53, h12, F12, h60, h61, h62]
  unfold stepS
  refine ⟨fun h1 => ?_, fun h1 => ⟨fun h2 => ?_, fun h2 => ⟨fun h3 => ?_, fun h3 => ?_⟩⟩⟩
  · simp_all
  · simp_all
  · simp_all
  · have v0 := valid0 (d := d) (by simpa using h1)
    have r0 := range1 (d := d) (y := y) (z := z) (v := v) (by simpa using h3)
    rw [if_neg (by simpa using h1), if_neg (by simpa using h2), if_neg (by simpa using h3)]
    refine ⟨fun h4 => ?_, fun h4 => ?_⟩
    · rw [if_pos]
      simp at h4; omega
    · have h4' : ¬ d.state ≥ 4 := by simp at h4; omega
      rw [if_neg h4']
      have e5 : (!if y = 2 ∨ y = 5 then decide (x = d.who) else !decide (x = d.who)) = ((y == 2 || y == 5) != decide (x = d.who)) := by
        by_cases a : y = 2 ∨ y = 5
        · have : (y == 2 || y == 5) = true := by simpa using a
          rw [if_pos a, this]; cases decide (x = d.who) <;> rfl
        · have : (y == 2 || y == 5) = false := by simpa using a
          rw [if_neg a, this]; cases decide (x = d.who) <;> rfl
      rw [e5]
      have hg : d.granted = 0 := v0.2.2.2.2.2.2.2.2.2.2.2 (by omega)
      have e6 : (nextS d.state y (decide (v ≥ IntKind.i64.wrap (d.opened + 43200)))).2 = possD d y v := by
        unfold nextS possD
        obtain hy | hy | hy | hy | hy : y = 1 ∨ y = 2 ∨ y = 3 ∨ y = 4 ∨ y = 5 := by omega
        all_goals obtain hs | hs | hs : d.state = 1 ∨ d.state = 2 ∨ d.state = 3 := by omega
        all_goals simp [hy, hs]
      have e7 : (nextS d.state y (decide (v ≥ IntKind.i64.wrap (d.opened + 43200)))).1 = stateD y := by
        unfold nextS stateD
        obtain hy | hy | hy | hy | hy : y = 1 ∨ y = 2 ∨ y = 3 ∨ y = 4 ∨ y = 5 := by omega
        all_goals simp [hy]
      rw [e6, e7]
      refine ⟨fun h5 => ?_, fun h5 => ⟨fun h6 => ?_, fun h6 => ⟨fun h7 => ?_, fun h7 => ⟨fun h8 => ?_, fun h8 => ?_⟩⟩⟩⟩
      · rw [if_pos h5]
      · rw [if_neg (by simp [h5]), if_pos (by simpa using h6)]
      · rw [if_neg (by simp [h5]), if_neg (by simpa using h6), if_pos (by simpa using h7)]
      · rw [if_neg (by simp [h5]), if_neg (by simpa using h6), if_neg (by simpa using h7)]
      · rw [if_neg (by simp [h5]), if_neg (by simpa using h6), if_neg (by simpa using h7), hg, r0.2.2.2.2.2 (by simpa using h8)]
abbrev S47 : List V → Option V := FT fun (t : Disp × ByteArray × Int × Int × Int × Unit) => some (stepS t.1 t.2.1 t.2.2.1 t.2.2.2.1 t.2.2.2.2.1)
abbrev S53 : List V → Option V := FT fun (t : Disp × Unit) => some (validD t.1)
theorem valid_of {d : Disp} (h : okName d.cdr = true ∧ okName d.who = true ∧ 1 ≤ d.state ∧ d.state ≤ 6 ∧ 0 ≤ d.opened ∧ d.opened ≤ 268435456 ∧ 1 ≤ d.claim ∧ d.claim ≤ 36028797018963968 ∧ 0 ≤ d.granted ∧ d.granted ≤ d.claim ∧ (d.granted = 0 ↔ d.state ≠ 4)) : validD d = 0 := by
  obtain ⟨h1, h2, h3, h4, h5, h6, h7, h8, h9, h10, h11⟩ := h
  unfold validD
  rw [if_neg (by simp [h1, h2]), if_neg (by simp; omega), if_neg]
  by_cases a : d.granted = 0
  · simp [a, h11.1 a]
  · have b : d.state = 4 := by
      by_cases b : d.state = 4
      · exact b
      · exact absurd (h11.2 b) a
    simp [a, b]
def openS (c : CdrD) (x : ByteArray) (claim now : Int) : Disp × Int :=
  bif cdrS c != 0 then (⟨⟨#[]⟩, ⟨#[]⟩, 0, 0, 0, 0⟩, cdrS c)
  else bif c.credit then (⟨⟨#[]⟩, ⟨#[]⟩, 0, 0, 0, 0⟩, 10)
  else bif !decide (x = c.provider) then (⟨⟨#[]⟩, ⟨#[]⟩, 0, 0, 0, 0⟩, 15)
  else bif decide (claim < 1) || decide (claim > c.total) || decide (claim > 36028797018963968) || decide (now < c.stop) || decide (now > 268435456) then (⟨⟨#[]⟩, ⟨#[]⟩, 0, 0, 0, 0⟩, 2)
  else bif decide (now > IntKind.i64.wrap (c.stop + 43200)) then (⟨⟨#[]⟩, ⟨#[]⟩, 0, 0, 0, 0⟩, 12)
  else (⟨c.id, x, 1, now, claim, 0⟩, 0)
theorem con45 {Φ : Specs} (hg : Idl.Good Try.prog Φ) (h15 : Φ 15 = some SCdr) : Contract Try.prog 45 (FT fun (t : CdrD × ByteArray × Int × Int × Unit) => some (openS t.1 t.2.1 t.2.2.1 t.2.2.2.1)) := by
  refine conT hg k45 ic45 (by decide) fun C t r h => ?_
  obtain ⟨c, x, y, z, u⟩ := t
  cases h
  simp +contextual only [go_sem, ↓reduceIte, Nat.reduceEqDiff, Nat.reduceAdd, Nat.reduceLeDiff, Nat.reduceLT, reduceCtorEq, c45, k45, h15]
  clear h15
  (repeat' (first | apply And.intro | intro _)) <;> simp only [openS, *, cond_true, cond_false]
def amountS (id : ByteArray) (total : Int) : List Disp → Int
  | [] => total
  | d :: l => if d.cdr = id ∧ d.state = 4 then IntKind.i64.wrap (total - d.granted) else amountS id total l
theorem con65 {Φ : Specs} (hg : Idl.Good Try.prog Φ) : Contract Try.prog 65 (FT fun (t : CdrD × List Disp × Unit) => if t.2.1.length ≤ 1000000 then some (amountS t.1.id t.1.total t.2.1) else none) := by
  refine conT hg k65 ic65 (by decide) fun C t r h => ?_
  obtain ⟨c, l, u⟩ := t
  dsimp only at h
  split at h
  · rename_i hl
    cases h
    simp +contextual only [go_sem, ↓reduceIte, Nat.reduceEqDiff, Nat.reduceAdd, Nat.reduceLeDiff, Nat.reduceLT, reduceCtorEq, c65, k65, List.length_map]
    refine TriI.loopL hg k65 l (fun i (_ : Unit) => ⟨slotsL [(2, .ref 0 0 0), (7, Cod.enc l), (8, .sc (.int .i64 l.length)), (9, .sc (.int .i64 i))], objsL [.live 14 [Cod.enc c] true], 1⟩)
      (fun xs _ => amountS c.id c.total xs = amountS c.id c.total l) () (.back rfl ?_) rfl ?_ ?_
    · simp +contextual only [go_sem, ↓reduceIte, Nat.reduceEqDiff, Nat.reduceAdd, Nat.reduceLeDiff, Nat.reduceLT, reduceCtorEq]
      rfl
    · intro _ hinv
      simp +contextual only [go_sem, ↓reduceIte, Nat.reduceEqDiff, Nat.reduceAdd, Nat.reduceLeDiff, Nat.reduceLT, reduceCtorEq, k65, Int.lt_irrefl, decide_false]
      exact hinv
    · intro i _ x xs hd hlt hx hinv
      have hw := wrap_nat hlt (by omega)
      simp +contextual only [go_sem, ↓reduceIte, Nat.reduceEqDiff, Nat.reduceAdd, Nat.reduceLeDiff, Nat.reduceLT, reduceCtorEq, k65, lt_dec hlt, hx, List.getElem?_map, Option.map_some, Int.natCast_nonneg, Int.toNat_natCast]
      refine ⟨fun h => ?_, fun h => ⟨(), ?_, .back rfl ?_⟩⟩
      · rw [← hinv, amountS, if_pos (by simpa using h)]
      · dsimp only; rw [← hinv, amountS, if_neg (by simpa using h)]
      · simp +contextual only [go_sem, ↓reduceIte, Nat.reduceEqDiff, Nat.reduceAdd, Nat.reduceLeDiff, Nat.reduceLT, reduceCtorEq, hw]
  · cases h
abbrev SOpen : List V → Option V := FT fun (t : CdrD × ByteArray × Int × Int × Unit) => some (openS t.1 t.2.1 t.2.2.1 t.2.2.2.1)
abbrev SAmount : List V → Option V := FT fun (t : CdrD × List Disp × Unit) => if t.2.1.length ≤ 1000000 then some (amountS t.1.id t.1.total t.2.1) else none
end Go.Proofs.Ytalhbhbkdfmhgaa
