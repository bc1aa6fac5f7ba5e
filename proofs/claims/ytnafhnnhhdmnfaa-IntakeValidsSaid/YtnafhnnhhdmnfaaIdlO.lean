/-
  The evaluator looks at an operation's operands alone.
-/
import Derived.Test.YtnafhnnhhdmnfaaIdlN
namespace Go.Idl
set_option linter.all false
open Go.RowKit

variable {P : Program} {Φ : Specs} {ρ ρ' : Operand → V} {h : Heap} {nid : Nat}

theorem evPure_congr (o : Oper) (hh : ∀ x ∈ o.op.operands, ρ x = ρ' x) : evPure P ρ o = evPure P ρ' o := by
  unfold evPure
  have h1 : (o.op.operands.all fun x => (ρ x).conc.isSome) = (o.op.operands.all fun x => (ρ' x).conc.isSome) := by
    rw [Bool.eq_iff_iff, Array.all_eq_true_iff_forall_mem, Array.all_eq_true_iff_forall_mem]
    exact ⟨fun hx x hm => by rw [← hh x hm]; exact hx x hm, fun hx x hm => by rw [hh x hm]; exact hx x hm⟩
  rw [h1]
  split
  · split
    · rfl
    · rename_i hs
      rw [execOp_congr (ρ := fun x => ((ρ x).conc).getD undef) (ρ' := fun x => ((ρ' x).conc).getD undef) o hs (fun x hx => by rw [hh x hx])]
  · rfl

theorem map_congr' (l : List Operand) (hh : ∀ x ∈ l, ρ x = ρ' x) : l.map ρ = l.map ρ' := List.map_congr_left hh

theorem parts_congr (ps : Array (Nat × Operand)) (hh : ∀ x ∈ (ps.toList.map (·.2)), ρ x = ρ' x) : (ps.toList.map fun p => (p.1, ρ p.2)) = ps.toList.map fun p => (p.1, ρ' p.2) :=
  List.map_congr_left fun p hp => by rw [hh p.2 (List.mem_map.2 ⟨p, hp, rfl⟩)]

theorem evOp0_congr (o : Oper) (hh : ∀ x ∈ o.op.operands, ρ x = ρ' x) : evOp0 P Φ nid ρ h o = evOp0 P Φ nid ρ' h o ∧ need0 nid ρ o = need0 nid ρ' o := by
  have hp := evPure_congr (P := P) o hh
  unfold evOp0 need0
  cases ho : o.op <;> rw [ho] at hh <;> simp only [Op.operands] at hh <;> simp only [hp]
  case move x => rw [hh x (by simp)]; simp
  case assign x => rw [hh x (by simp)]; simp
  case pick c x y => rw [hh c (by simp), hh x (by simp), hh y (by simp)]; simp
  case binOp op t x y t' => rw [hh x (by simp), hh y (by simp)]; simp only [evBin, hp]; simp
  case unOp op t x => rw [hh x (by simp)]; simp only [evUn, hp]; simp
  case alloc => simp
  case box t x => rw [hh x (by simp)]; simp
  case load t x => rw [hh x (by simp)]; simp
  case store t x y => rw [hh x (by simp), hh y (by simp)]; simp
  case fieldAddr s x f => rw [hh x (by simp)]; simp
  case indexAddr t x i => rw [hh x (by simp), hh i (by simp)]; simp
  case field s x f => rw [hh x (by simp)]; simp
  case extract x i => rw [hh x (by simp)]; simp
  case build t ps => rw [parts_congr (ρ := ρ) (ρ' := ρ') ps (fun x hx => hh x (by simpa using hx))]; simp
  case buildSlice t n ps => rw [parts_congr (ρ := ρ) (ρ' := ρ') ps (fun x hx => hh x (by simpa using hx))]; exact ⟨rfl, rfl⟩
  case makeSlice t x y => rw [hh x (by simp), hh y (by simp)]; simp
  case slice t x lo hi mx =>
    have h1 : ρ x = ρ' x := hh x (by simp)
    have h2 : lo.map ρ = lo.map ρ' := by cases lo with | none => rfl | some y => simp [hh y (by simp)]
    have h3 : hi.map ρ = hi.map ρ' := by cases hi with | none => rfl | some y => simp [hh y (by simp)]
    have h4 : mx.map ρ = mx.map ρ' := by cases mx with | none => rfl | some y => simp [hh y (by simp)]
    rw [h1, h2, h3, h4]
    simp
  case makeFunc fn xs ys =>
    rw [map_congr' (ρ := ρ) (ρ' := ρ') xs.toList (fun x hx => hh x (by simp; exact .inl (by simpa using hx))), map_congr' (ρ := ρ) (ρ' := ρ') ys.toList (fun x hx => hh x (by simp; exact .inr (by simpa using hx)))]
    simp
  case range t x => rw [hh x (by simp)]; simp
  case next it b => rw [hh it (by simp)]; simp
  case nilCheck x => rw [hh x (by simp)]; simp
  case call c =>
    have hargs : ∀ x ∈ c.args.toList, ρ x = ρ' x := fun x hx => hh x (by simp [Call.operands]; exact .inr (by simpa using hx))
    have h1 := map_congr' (ρ := ρ) (ρ' := ρ') c.args.toList hargs
    have h2 : (c.args.toList.flatMap fun x => (ρ x).ids) = c.args.toList.flatMap fun x => (ρ' x).ids := by
      simp only [List.flatMap_def]
      congr 1
      exact List.map_congr_left fun x hx => by rw [hargs x hx]
    refine ⟨?_, by rw [h2]⟩
    split
    · split
      · rename_i x t hxs hts
        rw [hargs x (by rw [hxs]; simp)]
      · rfl
    · split
      · rename_i s x t t' hxs hts
        rw [hargs s (by rw [hxs]; simp), hargs x (by rw [hxs]; simp)]
      · rfl
    · rfl
    · simp only [evCall, h1]
    · rfl
  all_goals simp

theorem mapEv_congr (o : Oper) (hh : ∀ x ∈ o.op.operands, ρ x = ρ' x) : mapEv P nid ρ h o = mapEv P nid ρ' h o ∧ mapNeed nid ρ o = mapNeed nid ρ' o := by
  unfold mapEv mapNeed
  cases ho : o.op <;> rw [ho] at hh <;> simp only [Op.operands] at hh <;> try (exact ⟨rfl, rfl⟩)
  case makeMap t r => cases r with | none => exact ⟨rfl, rfl⟩ | some x => simp [hh x (by simp)]
  case mapUpdate t m k x => dsimp only; rw [hh m (by simp), hh k (by simp), hh x (by simp)]; simp
  case lookup t m k b => dsimp only; rw [hh m (by simp), hh k (by simp)]; simp
  case call c =>
    have hargs : ∀ x ∈ c.args.toList, ρ x = ρ' x := fun x hx => hh x (by simp [Call.operands]; exact .inr (by simpa using hx))
    constructor
    · simp only
      split
      · rename_i x t _ hxs hts; rw [hargs x (by rw [hxs]; simp)]
      · rename_i x y t _ _ hxs hts; rw [hargs x (by rw [hxs]; simp), hargs y (by rw [hxs]; simp)]
      · rfl
    · simp only
      split
      · rename_i x _ hxs; rw [hargs x (by rw [hxs]; simp)]
      · rename_i x y _ hxs; rw [hargs x (by rw [hxs]; simp)]
      · rfl
theorem evOp_congr (o : Oper) (hh : ∀ x ∈ o.op.operands, ρ x = ρ' x) : evOp P Φ nid ρ h o = evOp P Φ nid ρ' h o ∧ need nid ρ o = need nid ρ' o := by
  obtain ⟨h1, h2⟩ := evOp0_congr (P := P) (Φ := Φ) (nid := nid) (h := h) o hh
  obtain ⟨h3, h4⟩ := mapEv_congr (P := P) (nid := nid) (h := h) o hh
  exact ⟨by rw [evOp, evOp, h1, h3], by rw [need, need, h2, h4]⟩

end Go.Idl
