import Derived.Test.YtalhbhbkdfmhgaaCodes
namespace Go.Proofs.Ytalhbhbkdfmhgaa
set_option linter.all false
open Go.Idl
set_option maxHeartbeats 4000000
set_option maxRecDepth 100000
attribute [local go_sem] Try.underlying3 Try.underlying5 Try.underlying9 Try.underlying21
def cap (c : Int) : Int := if 97 ≤ c ∧ c ≤ 122 then c - 32 else c
def val (r : Int) : Int := if 48 ≤ r ∧ r ≤ 57 then r - 48 else if 65 ≤ r ∧ r ≤ 90 then r - 55 else if 97 ≤ r ∧ r ≤ 122 then r - 87 else -1
def F31 : List V → Option V
  | [.sc (.int .i32 c)] => some (.sc (.int .i64 (val c)))
  | _ => none
theorem con31 {Φ : Specs} (hg : Idl.Good Try.prog Φ) : Contract Try.prog 31 F31 := by
  refine contractL hg k31 ic31 (fun xs r h => ?_) fun C xs r h => ?_
  · unfold F31 at h; split at h <;> simp_all
  · unfold F31 at h
    split at h
    · rename_i c
      cases h
      simp +contextual only [go_sem, ↓reduceIte, Nat.reduceEqDiff, Nat.reduceAdd, Nat.reduceLeDiff, Nat.reduceLT, reduceCtorEq, c31, k31]
      simp only [IntKind.wrap_i32, IntKind.wrap_i64, Bool.and_eq_true, Bool.and_eq_false_iff, decide_eq_true_eq, decide_eq_false_iff_not, val]
      refine ⟨fun h1 => ?_, fun h1 => ⟨fun h2 => ?_, fun h2 => ⟨fun h3 => ?_, fun h3 => ?_⟩⟩⟩ <;> (repeat' split) <;> omega
    · cases h
def okb (b : Int) : Bool := decide (0 ≤ val b) || b == 45 || b == 95 || b == 46 || b == 58 || b == 42
def okName (s : ByteArray) : Bool := decide (1 ≤ s.size ∧ s.size ≤ 36 ∧ ∀ i, i < s.size → okb ((s.get! i).toNat : Int) = true)
def F12 : List V → Option V
  | [.sc (.string s)] => some (.sc (.bool (okName s)))
  | _ => none
theorem con12 {Φ : Specs} (hg : Idl.Good Try.prog Φ) (h31 : Φ 31 = some F31) : Contract Try.prog 12 F12 := by
  refine contractL hg k12 ic12 (fun xs r h => ?_) fun C xs r h => ?_
  · unfold F12 at h; split at h <;> simp_all
  · unfold F12 at h
    split at h
    · rename_i s
      cases h
      simp +contextual only [go_sem, ↓reduceIte, Nat.reduceEqDiff, Nat.reduceAdd, Nat.reduceLeDiff, Nat.reduceLT, reduceCtorEq, c12, k12]
      simp only [Bool.or_eq_true, Bool.or_eq_false_iff, decide_eq_true_eq, decide_eq_false_iff_not]
      refine ⟨fun h => ?_, fun h => ?_⟩
      · unfold okName; symm; rw [decide_eq_false_iff_not]; omega
      · refine TriI.loopA hg k12 (fun i : Nat => ⟨slotsL [(14, .ref 0 0 0)], updH (fun _ => .unborn) 0 (.ext (.iter s i)), 1⟩) (fun i => i ≤ s.size ∧ ∀ j, j < i → okb ((s.get! j).toNat : Int) = true) (fun i => s.size - i) 0 (.slots ?_) ⟨by omega, fun j hj => by omega⟩ ?_
        · simp +contextual only [go_sem, ↓reduceIte, Nat.reduceEqDiff, Nat.reduceAdd, Nat.reduceLeDiff, Nat.reduceLT, reduceCtorEq]
        · rintro i ⟨hi, hinv⟩
          by_cases hlt : i < s.size
          · by_cases hb : (s.get! i).toNat < 128
            · have next : ∀ τ n, okb ((s.get! i).toNat : Int) = true → holdsL τ [(14, .ref 0 0 0)] → again C (fun i : Nat => ⟨slotsL [(14, .ref 0 0 0)], updH (fun _ => .unborn) 0 (.ext (.iter s i)), 1⟩) (fun i => i ≤ s.size ∧ ∀ j, j < i → okb ((s.get! j).toNat : Int) = true) (fun i => s.size - i) i
                  ⟨τ, updH (updH (fun _ => .unborn) 0 (.ext (.iter s i))) 0 (.ext (.iter s (i + 1))), n⟩ := fun τ n hok hτ =>
                ⟨i + 1, by dsimp only; omega, ⟨by omega, fun j hj => by
                  by_cases e : j = i
                  · subst e; exact hok
                  · exact hinv j (by omega)⟩, .slotsH (updH_over _ _ _ _) hτ⟩
              have stop : okb ((s.get! i).toNat : Int) = false → false = okName s := fun hok => by
                unfold okName; symm; rw [decide_eq_false_iff_not]
                intro hh
                rw [hh.2.2 i hlt] at hok
                cases hok
              simp +contextual only [go_sem, ↓reduceIte, Nat.reduceEqDiff, Nat.reduceAdd, Nat.reduceLeDiff, Nat.reduceLT, reduceCtorEq, k12, h31, F31, hlt, decode_low hb]
              generalize ((s.get! i).toNat : Int) = b at *
              have hn : ∀ τ n, okb b = true → holdsL τ [(14, .ref 0 0 0)] → _ := next
              have hcase : ∀ x : Int, (b == x) = true → okb x = true → okb b = true := fun x h1 h2 => by rw [beq_iff_eq.1 h1]; exact h2
              refine ⟨fun h1 => next _ _ (hcase _ h1 (by decide)) ?_, fun h1 => ⟨fun h2 => next _ _ (hcase _ h2 (by decide)) ?_, fun h2 => ⟨fun h3 => next _ _ (hcase _ h3 (by decide)) ?_, fun h3 => ⟨fun h4 => next _ _ (hcase _ h4 (by decide)) ?_, fun h4 => ⟨fun h5 => next _ _ (hcase _ h5 (by decide)) ?_, fun h5 => ⟨fun h6 => stop ?_, fun h6 => next _ _ ?_ ?_⟩⟩⟩⟩⟩⟩
              all_goals first
                | (simp +contextual only [go_sem, ↓reduceIte, Nat.reduceEqDiff, Nat.reduceAdd, Nat.reduceLeDiff, Nat.reduceLT, reduceCtorEq]; done)
                | skip
              · unfold okb; simp [h1, h2, h3, h4, h5]; simpa using h6
              · unfold okb; simp at h6; simp [h6]
            · obtain ⟨h1, h2⟩ := decode_high hb
              have stop : false = okName s := by
                unfold okName; symm; rw [decide_eq_false_iff_not]
                intro hh
                have := hh.2.2 i hlt
                unfold okb val at this
                have e : ∀ x : Int, x < 128 → (((s.get! i).toNat : Int) == x) = false := fun x hx => by simp; omega
                rw [e 45 (by omega), e 95 (by omega), e 46 (by omega), e 58 (by omega), e 42 (by omega)] at this
                simp at this
                (repeat' split at this) <;> omega
              have e : ∀ x : Int, x < 128 → (((Utf8.decode s i).1 : Int) == x) = false := fun x hx => by simp; omega
              have hv : decide (val ((Utf8.decode s i).1 : Int) < 0) = true := by
                unfold val; simp; (repeat' split) <;> omega
              simp +contextual only [go_sem, ↓reduceIte, Nat.reduceEqDiff, Nat.reduceAdd, Nat.reduceLeDiff, Nat.reduceLT, reduceCtorEq, k12, h31, F31, hlt, e 45 (by omega), e 95 (by omega), e 46 (by omega), e 58 (by omega), e 42 (by omega), hv]
              exact stop
          · simp +contextual only [go_sem, ↓reduceIte, Nat.reduceEqDiff, Nat.reduceAdd, Nat.reduceLeDiff, Nat.reduceLT, reduceCtorEq, k12, hlt]
            unfold okName; symm; rw [decide_eq_true_eq]
            exact ⟨by omega, by omega, fun j hj => hinv j (by omega)⟩
    · cases h
end Go.Proofs.Ytalhbhbkdfmhgaa
