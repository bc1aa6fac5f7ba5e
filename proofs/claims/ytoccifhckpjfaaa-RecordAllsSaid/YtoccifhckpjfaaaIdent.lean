import Derived.Test.YtoccifhckpjfaaaCodes
namespace Go.Proofs.Ytoccifhckpjfaaa
set_option linter.all false
open Go.Idl
set_option maxHeartbeats 4000000
set_option maxRecDepth 100000
attribute [local go_sem] Try.underlying3 Try.underlying5 Try.underlying9 Try.underlying21
def cap (c : Int) : Int := if 97 ≤ c ∧ c ≤ 122 then c - 32 else c
def F55 : List V → Option V
  | [.sc (.int .u8 c)] => if 0 ≤ c ∧ c < 256 then some (.sc (.int .u8 (cap c))) else none
  | _ => none
theorem con55 {Φ : Specs} (hg : Idl.Good Try.prog Φ) : Contract Try.prog 55 F55 := by
  refine contractL hg k55 ic55 (fun xs r h => ?_) fun C xs r h => ?_
  · unfold F55 at h; split at h <;> simp_all
  · unfold F55 at h
    split at h
    · rename_i c
      split at h
      · rename_i hc
        cases h
        simp +contextual only [go_sem, ↓reduceIte, Nat.reduceEqDiff, Nat.reduceAdd, Nat.reduceLeDiff, Nat.reduceLT, reduceCtorEq, c55, k55]
        simp only [IntKind.wrap_u8, Bool.and_eq_true, Bool.and_eq_false_iff, decide_eq_true_eq, decide_eq_false_iff_not, cap]
        constructor <;> intro h <;> split <;> omega
      · cases h
    · cases h
def val (r : Int) : Int := if 48 ≤ r ∧ r ≤ 57 then r - 48 else if 65 ≤ r ∧ r ≤ 90 then r - 55 else if 97 ≤ r ∧ r ≤ 122 then r - 87 else -1
def F60 : List V → Option V
  | [.sc (.int .i32 c)] => some (.sc (.int .i64 (val c)))
  | _ => none
theorem con60 {Φ : Specs} (hg : Idl.Good Try.prog Φ) : Contract Try.prog 60 F60 := by
  refine contractL hg k60 ic60 (fun xs r h => ?_) fun C xs r h => ?_
  · unfold F60 at h; split at h <;> simp_all
  · unfold F60 at h
    split at h
    · rename_i c
      cases h
      simp +contextual only [go_sem, ↓reduceIte, Nat.reduceEqDiff, Nat.reduceAdd, Nat.reduceLeDiff, Nat.reduceLT, reduceCtorEq, c60, k60]
      simp only [IntKind.wrap_i32, IntKind.wrap_i64, Bool.and_eq_true, Bool.and_eq_false_iff, decide_eq_true_eq, decide_eq_false_iff_not, val]
      refine ⟨fun h1 => ?_, fun h1 => ⟨fun h2 => ?_, fun h2 => ⟨fun h3 => ?_, fun h3 => ?_⟩⟩⟩ <;> (repeat' split) <;> omega
    · cases h
def letters : ByteArray := ⟨#[48, 49, 50, 51, 52, 53, 54, 55, 56, 57, 65, 66, 67, 68, 69, 70, 71, 72, 73, 74, 75, 76, 77, 78, 79, 80, 81, 82, 83, 84, 85, 86, 87, 88, 89, 90]⟩
theorem letters_at : ∀ i, i < 36 → (letters.get! i).toNat = if i < 10 then 48 + i else 55 + i := by decide
def F42 : List V → Option V
  | [.sc (.int .u8 c)] => if 0 ≤ c ∧ c < 256 then some (.sc (.int .i64 (val c))) else none
  | _ => none
theorem con42 {Φ : Specs} (hg : Idl.Good Try.prog Φ) (h55 : Φ 55 = some F55) : Contract Try.prog 42 F42 := by
  refine contractL hg k42 ic42 (fun xs r h => ?_) fun C xs r h => ?_
  · unfold F42 at h; split at h <;> simp_all
  · unfold F42 at h
    split at h
    · rename_i c
      split at h
      · rename_i hc
        cases h
        simp +contextual only [go_sem, ↓reduceIte, Nat.reduceEqDiff, Nat.reduceAdd, Nat.reduceLeDiff, Nat.reduceLT, reduceCtorEq, c42, k42]
        refine TriI.loopA hg k42 (fun i : Nat => ⟨slotsL [(0, .sc (.int .u8 c)), (3, .sc (.int .i64 i))], fun _ => .unborn, 0⟩) (fun i => i ≤ 36 ∧ ∀ j, j < i → ((letters.get! j).toNat : Int) ≠ cap c) (fun i => 36 - i) 0 (.slots ?_) ⟨by omega, fun j hj => by omega⟩ ?_
        · simp +contextual only [go_sem, ↓reduceIte, Nat.reduceEqDiff, Nat.reduceAdd, Nat.reduceLeDiff, Nat.reduceLT, reduceCtorEq]
          rfl
        · rintro i ⟨hi, hinv⟩
          by_cases hlt : i < 36
          · have hd : decide ((i : Int) < 36) = true := by simp; omega
            have hb : i < letters.size := hlt
            unfold letters at hb
            simp +contextual only [go_sem, ↓reduceIte, Nat.reduceEqDiff, Nat.reduceAdd, Nat.reduceLeDiff, Nat.reduceLT, reduceCtorEq, k42, h55, F55, hd, hb, Int.natCast_nonneg, Int.toNat_natCast, hc]
            refine ⟨rfl, ?_⟩
            have hl := letters_at i hlt
            unfold letters at hl
            rw [hl]
            simp only [beq_iff_eq, beq_eq_false_iff_ne]
            refine ⟨fun h => ?_, fun h => ⟨i + 1, by dsimp only; omega, ⟨by omega, fun j hj => ?_⟩, .slots ?_⟩⟩
            · unfold cap at h; unfold val
              (repeat' split) <;> (repeat' split at h) <;> omega
            · by_cases e : j = i
              · subst e; rw [letters_at _ hlt]; exact h
              · exact hinv j (by omega)
            · simp +contextual only [go_sem, ↓reduceIte, Nat.reduceEqDiff, Nat.reduceAdd, Nat.reduceLeDiff, Nat.reduceLT, reduceCtorEq, IntKind.wrap_i64]
              omega
          · have hd : decide ((i : Int) < 36) = false := by simp; omega
            simp +contextual only [go_sem, ↓reduceIte, Nat.reduceEqDiff, Nat.reduceAdd, Nat.reduceLeDiff, Nat.reduceLT, reduceCtorEq, k42, hd]
            have h36 : ∀ j, j < 36 → ((if j < 10 then 48 + j else 55 + j : Nat) : Int) ≠ cap c := fun j hj => by
              rw [← letters_at j hj]; exact hinv j (by omega)
            unfold val cap at *
            (repeat' split) <;> try rfl
            · have := h36 (c - 48).toNat (by omega)
              (repeat' split at this) <;> omega
            · have := h36 (c - 55).toNat (by omega)
              (repeat' split at this) <;> omega
            · have := h36 (c - 87).toNat (by omega)
              (repeat' split at this) <;> omega
      · cases h
    · cases h
def okb (b : Int) : Bool := decide (0 ≤ val b) || b == 45 || b == 95 || b == 46 || b == 58 || b == 42
def okName (s : ByteArray) : Bool := decide (1 ≤ s.size ∧ s.size ≤ 36 ∧ ∀ i, i < s.size → okb ((s.get! i).toNat : Int) = true)
def F49 : List V → Option V
  | [.sc (.string s)] => some (.sc (.bool (okName s)))
  | _ => none
theorem con49 {Φ : Specs} (hg : Idl.Good Try.prog Φ) (h60 : Φ 60 = some F60) : Contract Try.prog 49 F49 := by
  refine contractL hg k49 ic49 (fun xs r h => ?_) fun C xs r h => ?_
  · unfold F49 at h; split at h <;> simp_all
  · unfold F49 at h
    split at h
    · rename_i s
      cases h
      simp +contextual only [go_sem, ↓reduceIte, Nat.reduceEqDiff, Nat.reduceAdd, Nat.reduceLeDiff, Nat.reduceLT, reduceCtorEq, c49, k49]
      simp only [Bool.or_eq_true, Bool.or_eq_false_iff, decide_eq_true_eq, decide_eq_false_iff_not]
      refine ⟨fun h => ?_, fun h => ?_⟩
      · unfold okName; symm; rw [decide_eq_false_iff_not]; omega
      · refine TriI.loopA hg k49 (fun i : Nat => ⟨slotsL [(14, .ref 0 0 0)], updH (fun _ => .unborn) 0 (.ext (.iter s i)), 1⟩) (fun i => i ≤ s.size ∧ ∀ j, j < i → okb ((s.get! j).toNat : Int) = true) (fun i => s.size - i) 0 (.slots ?_) ⟨by omega, fun j hj => by omega⟩ ?_
        · simp +contextual only [go_sem, ↓reduceIte, Nat.reduceEqDiff, Nat.reduceAdd, Nat.reduceLeDiff, Nat.reduceLT, reduceCtorEq]
        · rintro i ⟨hi, hinv⟩
          by_cases hlt : i < s.size
          · by_cases hb : (s.get! i).toNat < 128
            · have next : ∀ τ n, okb ((s.get! i).toNat : Int) = true → holdsL τ [(14, .ref 0 0 0)] → again C (fun i : Nat => ⟨slotsL [(14, .ref 0 0 0)], updH (fun _ => .unborn) 0 (.ext (.iter s i)), 1⟩) (fun i => i ≤ s.size ∧ ∀ j, j < i → okb ((s.get! j).toNat : Int) = true) (fun i => s.size - i) i
                  ⟨τ, updH (updH (fun _ => .unborn) 0 (.ext (.iter s i))) 0 (.ext (.iter s (i + 1))), n⟩ := fun τ n hok hτ =>
                ⟨i + 1, by dsimp only; omega, ⟨by omega, fun j hj => by
                  by_cases e : j = i
                  · subst e; exact hok
                  · exact hinv j (by omega)⟩, .slotsH (updH_over _ _ _ _) hτ⟩
              have stop : okb ((s.get! i).toNat : Int) = false → false = okName s := fun hok => by
                unfold okName; symm; rw [decide_eq_false_iff_not]
                intro hh
                rw [hh.2.2 i hlt] at hok
                cases hok
              simp +contextual only [go_sem, ↓reduceIte, Nat.reduceEqDiff, Nat.reduceAdd, Nat.reduceLeDiff, Nat.reduceLT, reduceCtorEq, k49, h60, F60, hlt, decode_low hb]
              generalize ((s.get! i).toNat : Int) = b at *
              have hn : ∀ τ n, okb b = true → holdsL τ [(14, .ref 0 0 0)] → _ := next
              have hcase : ∀ x : Int, (b == x) = true → okb x = true → okb b = true := fun x h1 h2 => by rw [beq_iff_eq.1 h1]; exact h2
              refine ⟨fun h1 => next _ _ (hcase _ h1 (by decide)) ?_, fun h1 => ⟨fun h2 => next _ _ (hcase _ h2 (by decide)) ?_, fun h2 => ⟨fun h3 => next _ _ (hcase _ h3 (by decide)) ?_, fun h3 => ⟨fun h4 => next _ _ (hcase _ h4 (by decide)) ?_, fun h4 => ⟨fun h5 => next _ _ (hcase _ h5 (by decide)) ?_, fun h5 => ⟨fun h6 => stop ?_, fun h6 => next _ _ ?_ ?_⟩⟩⟩⟩⟩⟩
              all_goals first
                | (simp +contextual only [go_sem, ↓reduceIte, Nat.reduceEqDiff, Nat.reduceAdd, Nat.reduceLeDiff, Nat.reduceLT, reduceCtorEq]; done)
                | skip
              · unfold okb; simp [h1, h2, h3, h4, h5]; simpa using h6
              · unfold okb; simp at h6; simp [h6]
            · obtain ⟨h1, h2⟩ := decode_high hb
              have stop : false = okName s := by
                unfold okName; symm; rw [decide_eq_false_iff_not]
                intro hh
                have := hh.2.2 i hlt
                unfold okb val at this
                have e : ∀ x : Int, x < 128 → (((s.get! i).toNat : Int) == x) = false := fun x hx => by simp; omega
                rw [e 45 (by omega), e 95 (by omega), e 46 (by omega), e 58 (by omega), e 42 (by omega)] at this
                simp at this
                (repeat' split at this) <;> omega
              have e : ∀ x : Int, x < 128 → (((Utf8.decode s i).1 : Int) == x) = false := fun x hx => by simp; omega
              have hv : decide (val ((Utf8.decode s i).1 : Int) < 0) = true := by
                unfold val; simp; (repeat' split) <;> omega
              simp +contextual only [go_sem, ↓reduceIte, Nat.reduceEqDiff, Nat.reduceAdd, Nat.reduceLeDiff, Nat.reduceLT, reduceCtorEq, k49, h60, F60, hlt, e 45 (by omega), e 95 (by omega), e 46 (by omega), e 58 (by omega), e 42 (by omega), hv]
              exact stop
          · simp +contextual only [go_sem, ↓reduceIte, Nat.reduceEqDiff, Nat.reduceAdd, Nat.reduceLeDiff, Nat.reduceLT, reduceCtorEq, k49, hlt]
            unfold okName; symm; rw [decide_eq_true_eq]
            exact ⟨by omega, by omega, fun j hj => hinv j (by omega)⟩
    · cases h
theorem byte_in (s : ByteArray) (i : Nat) : (0 : Int) ≤ ((s.get! i).toNat : Int) ∧ ((s.get! i).toNat : Int) < 256 := by
  have := (s.get! i).toNat_lt
  omega
theorem con20 {Φ : Specs} (hg : Idl.Good Try.prog Φ) (h42 : Φ 42 = some F42) : Contract Try.prog 20 F49 := by
  refine contractL hg k20 ic20 (fun xs r h => ?_) fun C xs r h => ?_
  · unfold F49 at h; split at h <;> simp_all
  · unfold F49 at h
    split at h
    · rename_i s
      cases h
      simp +contextual only [go_sem, ↓reduceIte, Nat.reduceEqDiff, Nat.reduceAdd, Nat.reduceLeDiff, Nat.reduceLT, reduceCtorEq, c20, k20]
      simp only [Bool.or_eq_true, Bool.or_eq_false_iff, decide_eq_true_eq, decide_eq_false_iff_not]
      refine ⟨fun h => ?_, fun h => ?_⟩
      · unfold okName; symm; rw [decide_eq_false_iff_not]; omega
      · refine TriI.loopA hg k20 (fun i : Nat => ⟨slotsL [(0, .sc (.string s)), (3, .sc (.int .i64 i))], fun _ => .unborn, 0⟩) (fun i => i ≤ s.size ∧ ∀ j, j < i → okb ((s.get! j).toNat : Int) = true) (fun i => s.size - i) 0 (.slots ?_) ⟨by omega, fun j hj => by omega⟩ ?_
        · simp +contextual only [go_sem, ↓reduceIte, Nat.reduceEqDiff, Nat.reduceAdd, Nat.reduceLeDiff, Nat.reduceLT, reduceCtorEq]
          rfl
        · rintro i ⟨hi, hinv⟩
          by_cases hlt : i < s.size
          · have hd : decide ((i : Int) < (s.size : Int)) = true := by simp; omega
            simp +contextual only [go_sem, ↓reduceIte, Nat.reduceEqDiff, Nat.reduceAdd, Nat.reduceLeDiff, Nat.reduceLT, reduceCtorEq, k20, h42, F42, hlt, hd, Int.natCast_nonneg, Int.toNat_natCast, byte_in]
            have hw : IntKind.i64.wrap ((i : Int) + 1) = ((i + 1 : Nat) : Int) := by rw [IntKind.wrap_i64]; omega
            have hokb : okb ((s.get! i).toNat : Int) = !(decide (val ((s.get! i).toNat : Int) < 0) && ((s.get! i).toNat : Int) != 45 && ((s.get! i).toNat : Int) != 95 && ((s.get! i).toNat : Int) != 46 && ((s.get! i).toNat : Int) != 58 && ((s.get! i).toNat : Int) != 42) := by
              unfold okb
              generalize ((s.get! i).toNat : Int) = b
              have e : decide (0 ≤ val b) = !decide (val b < 0) := by
                by_cases h : val b < 0
                · rw [decide_eq_true h, decide_eq_false (by omega)]; rfl
                · rw [decide_eq_false h, decide_eq_true (by omega)]; rfl
              simp only [bne, e, Bool.not_and, Bool.not_not]
            refine ⟨fun h1 => ?_, fun h1 => ⟨i + 1, by dsimp only; omega, ⟨by omega, fun j hj => ?_⟩, .slots ?_⟩⟩
            · unfold okName; symm; rw [decide_eq_false_iff_not]
              intro hh
              have := hh.2.2 i hlt
              rw [hokb, h1] at this
              cases this
            · by_cases e : j = i
              · subst e; rw [hokb, h1]; rfl
              · exact hinv j (by omega)
            · simp +contextual only [go_sem, ↓reduceIte, Nat.reduceEqDiff, Nat.reduceAdd, Nat.reduceLeDiff, Nat.reduceLT, reduceCtorEq, hw]
          · have hd : decide ((i : Int) < (s.size : Int)) = false := by simp; omega
            simp +contextual only [go_sem, ↓reduceIte, Nat.reduceEqDiff, Nat.reduceAdd, Nat.reduceLeDiff, Nat.reduceLT, reduceCtorEq, k20, hd]
            unfold okName; symm; rw [decide_eq_true_eq]
            exact ⟨by omega, by omega, fun j hj => hinv j (by omega)⟩
    · cases h
end Go.Proofs.Ytoccifhckpjfaaa
