/-
  Loops over states that are listed.
-/
import Derived.Test.YtnafhnnhhdmnfaaIdlY
namespace Go.Idl
set_option linter.all false

variable {P : Program} {Φ : Specs} {C : Ctx} {N : Nat} {K : List Nat}

/-- Slots that are listed; of the others nothing is known. -/
def slotsL : List (Nat × V) → Nat → V
  | [], _ => .any
  | (k, v) :: L, t => if t = k then v else slotsL L t
@[go_sem ↓] theorem slotsL_nil (t : Nat) : slotsL [] t = .any := nd rfl
@[go_sem ↓] theorem slotsL_cons (k : Nat) (v : V) (L : List (Nat × V)) (t : Nat) : slotsL ((k, v) :: L) t = if t = k then v else slotsL L t := nd rfl

/-- The listed slots stand so. -/
def holdsL (τ : Nat → V) : List (Nat × V) → Prop
  | [] => True
  | (k, v) :: L => τ k = v ∧ holdsL τ L
@[go_sem ↓] theorem holdsL_nil (τ : Nat → V) : holdsL τ [] = True := nd rfl
@[go_sem ↓] theorem holdsL_cons (τ : Nat → V) (k : Nat) (v : V) (L : List (Nat × V)) : holdsL τ ((k, v) :: L) = (τ k = v ∧ holdsL τ L) := nd rfl

theorem slotsL_of {τ : Nat → V} : ∀ {L : List (Nat × V)}, holdsL τ L → ∀ t, slotsL L t = .any ∨ slotsL L t = τ t
  | [], _, t => .inl rfl
  | (k, v) :: L, h, t => by
    rw [slotsL_cons]
    by_cases e : t = k
    · subst e; rw [if_pos rfl]; exact .inr h.1.symm
    · rw [if_neg e]; exact slotsL_of h.2 t

theorem LeF.slots {C : Ctx} {τ : Nat → V} {H : Heap} {n n' : Nat} {L : List (Nat × V)} (h : holdsL τ L) : LeF C ⟨τ, H, n⟩ ⟨slotsL L, H, n'⟩ := LeF.forget rfl fun t => slotsL_of h t


theorem inlV_mono {vs : List V} {s : SF} {K K' : V → SF → Prop} (hk : ∀ v s', K v s' → K' v s') {x : V} (h : inlV P C vs s K x) : inlV P C vs s K' x := by
  unfold inlV at h ⊢
  split
  · rename_i f xs ys hf; rw [hf] at h; exact h.mono hk
  · rename_i hf; rw [hf] at h; exact h
theorem inlI_mono {io : Ins} {s : SF} {K K' : V → SF → Prop} (hk : ∀ v s', K v s' → K' v s') (h : inlI P C io s K) : inlI P C io s K' := by
  cases io
  all_goals first | exact (show False from h).elim | exact CallT.mono h hk | exact inlV_mono hk h | exact OpT.mono h hk
theorem seqI_mono {Q Q' : SF → Prop} (hq : ∀ s, Q s → Q' s) : ∀ (l : List IOp) (s : SF), seqI P Φ C Q l s → seqI P Φ C Q' l s
  | [], s, h => hq s h
  | o :: l, s, h => by
    simp only [seqI] at h ⊢
    split
    · rename_i b hw
      rw [hw] at h
      refine ⟨fun hb => ?_, fun hb => seqI_mono hq l _ (h.2 hb)⟩
      have h1 := h.1 hb
      split
      · rename_i v δ he
        rw [he] at h1
        exact seqI_mono hq l _ h1
      · rename_i he
        rw [he] at h1
        exact inlI_mono (fun v s' hh => seqI_mono hq l _ hh) h1
    · rename_i hw
      rw [hw] at h
      exact h
theorem drwI_mono {bef : List Nat} {n0 : Nat} {Q Q' : SF → Prop} (hq : ∀ s, Q s → Q' s) : ∀ (l : List IOp) (i : Nat) (acc : List Rec) (s : SF), drwI P Φ C bef n0 Q l i acc s → drwI P Φ C bef n0 Q' l i acc s
  | [], _, _, s, h => ⟨h.1, hq _ h.2⟩
  | o :: l, i, acc, s, h => by
    simp only [drwI] at h ⊢
    split
    · rename_i b hw
      rw [hw] at h
      refine ⟨fun hb => ?_, fun hb => drwI_mono hq l _ _ _ (h.2 hb)⟩
      have h1 := h.1 hb
      split
      · rename_i v δ he
        rw [he] at h1
        exact drwI_mono hq l _ _ _ h1
      · rename_i he
        rw [he] at h1
        exact ⟨h1.1, h1.2.1, h1.2.2.1, inlI_mono (fun v s' hh => seqI_mono hq l _ hh) h1.2.2.2⟩
    · rename_i hw
      rw [hw] at h
      exact h
theorem walkI_mono : ∀ {ic : IC} {s : SF} {Q Q' : Exit → SF → Prop}, (∀ e s, Q e s → Q' e s) → walkI P Φ C N K ic s Q → walkI P Φ C N K ic s Q'
  | .skip, s, Q, Q', hq, h => hq _ _ h
  | .exit _, s, Q, Q', hq, h => hq _ _ h
  | .ret, s, Q, Q', hq, h => hq _ _ h
  | .reg ops, s, Q, Q', hq, h => seqI_mono (fun s' hh => hq _ _ hh) ops s h
  | .drw bef ops, s, Q, Q', hq, h => drwI_mono (fun s' hh => hq _ _ hh) ops _ _ s h
  | .seq x y, s, Q, Q', hq, h => walkI_mono (ic := x) (fun e s' hh => by
      cases e with
      | normal => exact walkI_mono (ic := y) hq hh
      | _ => exact hq _ _ hh) h
  | .cond c x y, s, Q, Q', hq, h => by
    simp only [walkI] at h ⊢
    split
    · rename_i t ht
      rw [ht] at h
      exact ⟨fun e => walkI_mono hq (h.1 e), fun e => walkI_mono hq (h.2 e)⟩
    · rename_i hne
      split at h
      · rename_i t ht; exact absurd ht (hne t)
      · exact h
  | .block id b, s, Q, Q', hq, h => walkI_mono (ic := b) (fun e s' hh => by
      cases e with
      | exit id' =>
        simp only [inBlockF] at hh ⊢
        split
        · rename_i e; rw [if_pos e] at hh; exact hq _ _ hh
        · rename_i e; rw [if_neg e] at hh; exact hq _ _ hh
      | _ => exact hq _ _ hh) h
  | .loop b, s, Q, Q', hq, h => TriI.mono h hq

theorem updH_over (H : Heap) (i : Nat) (x y : Obj) : updH (updH H i x) i y = updH H i y := by
  funext t
  simp only [updH]
  split <;> rfl
theorem LeF.slotsH {C : Ctx} {τ : Nat → V} {H H' : Heap} {n n' : Nat} {L : List (Nat × V)} (hH : H = H') (h : holdsL τ L) : LeF C ⟨τ, H, n⟩ ⟨slotsL L, H', n'⟩ := hH ▸ LeF.slots h

/-! ### Runes -/
theorem decode_low {s : ByteArray} {i : Nat} (h : (s.get! i).toNat < 128) : Utf8.decode s i = ((s.get! i).toNat, 1) := by
  unfold Utf8.decode
  simp [h]
theorem decode_high {s : ByteArray} {i : Nat} (h : ¬ (s.get! i).toNat < 128) : 128 ≤ (Utf8.decode s i).1 ∧ 1 ≤ (Utf8.decode s i).2 := by
  unfold Utf8.decode Utf8.runeError
  simp only [Nat.add_zero, if_neg h]
  (repeat' split) <;> simp_all <;> omega

/-- The next round's head. -/
def again (C : Ctx) {α : Type} (st : α → SF) (inv : α → Prop) (ms : α → Nat) (a : α) (s' : SF) : Prop := ∃ a', ms a' < ms a ∧ inv a' ∧ LeF C s' (st a')

/-- A round ends at the next one's head, or leaves the loop. -/
def roundR (C : Ctx) {α : Type} (st : α → SF) (inv : α → Prop) (ms : α → Nat) (a : α) (Q : Exit → SF → Prop) : Exit → SF → Prop := andThenF (again C st inv ms a) Q
section
variable {α : Type} (st : α → SF) (inv : α → Prop) (ms : α → Nat) (a : α) (Q : Exit → SF → Prop)
@[go_sem ↓] theorem roundR_normal (s : SF) : roundR C st inv ms a Q .normal s = again C st inv ms a s := nd rfl
@[go_sem ↓] theorem roundR_exit (id : Nat) (s : SF) : roundR C st inv ms a Q (.exit id) s = Q (.exit id) s := nd rfl
@[go_sem ↓] theorem roundR_ret (s : SF) : roundR C st inv ms a Q .ret s = Q .ret s := nd rfl
end

theorem TriI.loopA (hg : Good P Φ) (K : List Nat) {b : IC} {s : SF} {Q : Exit → SF → Prop} {α : Type} (st : α → SF) (inv : α → Prop) (ms : α → Nat) (a0 : α) (h0 : LeF C s (st a0)) (hi : inv a0)
    (round : ∀ a, inv a → walkI P Φ C N K b (st a) (contI P Φ C N K (roundR C st inv ms a Q) [])) : TriI P C N (.loop b) s Q := by
  refine TriI.loop hg (K := K) (fun m s => ∃ a, inv a ∧ ms a = m ∧ s = st a) (m := ms a0) ⟨st a0, h0, a0, hi, rfl, rfl⟩ ?_
  rintro m s ⟨a, ha, rfl, rfl⟩
  have h : walkI P Φ C N K b (st a) (andThenF (again C st inv ms a) Q) := walkI_mono (fun e s h => h) (round a ha)
  refine (walkI_mono ?_ h)
  intro e s' hh
  cases e with
  | normal =>
    obtain ⟨a', h1, h2, h3⟩ := hh
    exact ⟨ms a', st a', h1, h3, a', h2, rfl, rfl⟩
  | _ => exact hh

end Go.Idl
