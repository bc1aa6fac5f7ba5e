/- Records: without one update (plain). -/
import Derived.Test.YtoccifhckpjfaaaRec37h
namespace Go.Proofs.Ytoccifhckpjfaaa
set_option linter.all false
open Go.Idl
set_option maxHeartbeats 4000000
set_option maxRecDepth 100000
structure MakeOk (l : List EvD) (m : Int) (r : RecD) (D : List EvD) (g : List Rdg) : Prop where
  val : ∀ x, x ∈ l → evS x = 0
  srt : D.Pairwise (fun a b => a.seq < b.seq)
  mem : ∀ x, x ∈ D ↔ x ∈ l
  cpl : complS D = true
  bad : badM (hdE D).conn D = false
  mrg : mrgE [] D = (g, 0)
  off : rdOff (hdE D) (ltE D) g = false
  tot : valS g m = 0
  eqn : r = recOf (hdE D) (ltE D) (offS D) g (totL m g)
theorem badM_end {c : Int} : ∀ {D : List EvD} {x : EvD}, badM c D = false → x ∈ D → x.kind = 3 → D.getLast? = some x
  | [], x, _, hx, _ => by simp at hx
  | z :: D, x, h, hx, hk => by
    rw [badM, Bool.or_eq_false_iff, Bool.or_eq_false_iff] at h
    rcases List.mem_cons.1 hx with rfl | hx
    · have h1 := h.1.1
      rw [hk] at h1
      have : D = [] := by
        cases D with
        | nil => rfl
        | cons a b => simp at h1
      rw [this]; rfl
    · have := badM_end h.2 hx hk
      cases D with
      | nil => simp at hx
      | cons a b => rw [List.getLast?_cons_cons]; exact this
theorem MakeOk.last {l : List EvD} {m : Int} {r : RecD} {D : List EvD} {g : List Rdg} (h : MakeOk l m r D g) : ltE D ∈ D ∧ (ltE D).kind = 3 := by
  have hc := h.cpl
  rw [complS, Bool.and_eq_true] at hc
  obtain ⟨x, hx, hx0⟩ := List.any_eq_true.1 hc.2
  have hx0 : x.kind = 3 := by rw [Bool.and_eq_true] at hx0; simpa using hx0.2
  have hl : ltE D = x := by rw [ltE, badM_end h.bad hx hx0]; rfl
  rw [hl]
  exact ⟨hx, hx0⟩
end Go.Proofs.Ytoccifhckpjfaaa
