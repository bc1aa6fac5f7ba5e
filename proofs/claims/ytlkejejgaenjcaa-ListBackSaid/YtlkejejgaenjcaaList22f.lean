/- Full. -/
import Derived.Test.YtlkejejgaenjcaaList22e
namespace Go.Idl
open Go.RowKit
variable [Laid]
/-- A nil slice that a call hands back, as an empty one of the call's own. -/
theorem CallT.own0 {P : Program} {C : Ctx} {f : FuncId} {vs : List V} {s : SF} {sz : Nat} {K : V → SF → Prop}
    (h : CallT P C f vs s fun v s' => (v = .sc (.slice none 0 0) ∧ s'.H s'.n = .unborn ∧ K (.own s'.n 0 0) ⟨s'.τ, updH s'.H s'.n (.live sz [] true), s'.n + 1⟩) ∨ K v s') : CallT P C f vs s K := by
  refine ⟨h.1, fun tm w γ I args h1 h2 h3 => (h.2 tm w γ I args h1 h2 h3).mono ?_⟩
  rintro e w' ⟨u, v, s', e1, hK, γ', I', hS, hr⟩
  rcases hK with ⟨rfl, hu, hK⟩ | hK
  · have hu' := hr.sc_eq
    subst hu'
    exact ⟨_, .own s'.n 0 0, _, e1, hK, γ', I', hS.bornNil hu sz true, .own0 _ _ _ _⟩
  · exact ⟨u, v, s', e1, hK, γ', I', hS, hr⟩
/-- A nil slice is an empty one. -/
theorem LeF.nilsl {C : Ctx} {τ : Nat → V} {H : Heap} {n : Nat} (k sz : Nat) (h : τ k = .sc (.slice none 0 0)) : LeF C ⟨τ, H, n⟩ ⟨updT τ k (.slice sz []), H, n⟩ := by
  rintro a w ⟨γ, I, hS⟩
  refine ⟨γ, I, { below := hS.below, imm0 := hS.imm0, immB := hS.immB, immS := hS.immS, tmp := fun t => ?_, kept := hS.kept, dom := hS.dom, obj := hS.obj, ext := hS.ext, inj := hS.inj }⟩
  show Rep I w γ (updT τ k (.slice sz []) t) _
  unfold updT
  by_cases e : t = k
  · subst e
    rw [if_pos rfl]
    have h1 := hS.tmp t
    dsimp only at h1
    rw [h] at h1
    rw [h1.sc_eq]
    exact .nilslice _ _ _ _
  · rw [if_neg e]
    exact hS.tmp t
end Go.Idl
namespace Go.Proofs.Ytlkejejgaenjcaa
set_option linter.all false
open Go.Idl
set_option maxHeartbeats 4000000
set_option maxRecDepth 100000
attribute [local go_sem] eqTok agTok agLst Try.underlying3 Try.underlying5 Try.underlying9 Try.underlying4
def cdT (x y : V) : Int := match (Cod.dec x : Option TokD), (Cod.dec y : Option TokD) with
  | some a, some b => cmpT (kT a) (kT b)
  | _, _ => 0
theorem cdT_enc (a b : TokD) : cdT (Cod.enc a) (Cod.enc b) = cmpT (kT a) (kT b) := by simp only [cdT, Cod.dec_enc]
theorem sortToks (hsort : SortT Try.prog 32 6) (hcmp : Contract Try.prog 26 SByK) {C : Ctx} {s : SF} {lid : Nat} {acc : List TokD} {K : V → SF → Prop}
    (hH : s.H lid = .live 6 (acc.map Cod.enc) true) (hlen : acc.length ≤ 1000000) (ho : okIds acc = true) (hd : DisK acc)
    (hK : K (.tup []) ⟨s.τ, updH s.H lid (.live 6 ((srtT acc).map Cod.enc) true), s.n⟩) :
    CallT Try.prog C 32 [.own lid 0 acc.length, .sc (.func (.func 26) #[] #[])] s K := by
  have ht : (acc.map Cod.enc).take acc.length = acc.map Cod.enc := List.take_of_length_le (by simp)
  have hdr : (acc.map Cod.enc : List V).drop acc.length = [] := by simp
  have mem : ∀ {x : V}, x ∈ acc.map Cod.enc → ∃ a, a ∈ acc ∧ Cod.enc a = x := fun h => by simpa using h
  refine hsort C 26 (facts_enters ic26) SByK hcmp s lid acc.length (acc.map Cod.enc) cdT hH (by simp) (by omega) ?_ ?_ ?_ ?_ ?_ ?_ K ?_
  all_goals rw [ht]
  · intro e he
    obtain ⟨a, _, rfl⟩ := mem he
    exact ⟨_, rfl⟩
  · intro e he
    obtain ⟨a, _, rfl⟩ := mem he
    rfl
  · intro x hx y hy
    obtain ⟨a, ha, rfl⟩ := mem hx
    obtain ⟨b, hb, rfl⟩ := mem hy
    rw [cdT_enc]
    show FTb _ (CodA.decA [Cod.enc a, Cod.enc b] : Option (TokD × TokD × Unit)) = _
    have : (CodA.decA [Cod.enc a, Cod.enc b] : Option (TokD × TokD × Unit)) = some (a, b, ()) := by
      simp only [decA_cons, decA_unit, Cod.dec_enc, dec2]
    rw [this]
    simp only [FTb]
    rw [if_pos ⟨okIds_mem ho ha, okIds_mem ho hb⟩]
    rfl
  · intro x hx
    obtain ⟨a, ha, rfl⟩ := mem hx
    rw [cdT_enc, cmpT_neg, lt_irr]
    simp
  · intro x hx y hy z hz
    obtain ⟨a, ha, rfl⟩ := mem hx
    obtain ⟨b, hb, rfl⟩ := mem hy
    obtain ⟨c, hc, rfl⟩ := mem hz
    rw [cdT_enc, cdT_enc, cdT_enc, cmpT_neg, cmpT_neg, cmpT_neg]
    exact fun h1 h2 => lt_trans h1 h2
  · intro x hx y hy z hz
    obtain ⟨a, ha, rfl⟩ := mem hx
    obtain ⟨b, hb, rfl⟩ := mem hy
    obtain ⟨c, hc, rfl⟩ := mem hz
    rw [cdT_enc, cdT_enc, cdT_enc, cmpT_neg, cmpT_neg, cmpT_neg]
    intro h1 h2 h3
    cases h4 : ltS (kT b) (kT a) with
    | true => exact h2 (lt_trans h4 h3)
    | false =>
      have : kT a = kT b := lt_total (by simpa using h1) h4
      rw [this] at h3
      exact h2 h3
  · intro es' hp hs
    rw [hdr, List.append_nil]
    have hdec : es' = (es'.filterMap (Cod.dec : V → Option TokD)).map Cod.enc := by
      have all : ∀ x, x ∈ es' → ∃ a : TokD, Cod.enc a = x := fun x hx => (mem (hp.mem_iff.1 hx)).imp fun a h => h.2
      clear hs hp
      induction es' with
      | nil => rfl
      | cons x xs ih =>
        obtain ⟨a, rfl⟩ := all x (by simp)
        rw [List.filterMap_cons_some (Cod.dec_enc a), List.map_cons, ← ih fun y hy => all y (by simp [hy])]
    have hpa : (es'.filterMap (Cod.dec : V → Option TokD)).Perm acc := by
      have := hp.filterMap (Cod.dec : V → Option TokD)
      rwa [List.filterMap_map, show (Cod.dec ∘ Cod.enc : TokD → Option TokD) = some from funext fun a => Cod.dec_enc a, List.filterMap_some] at this
    have heq : es'.filterMap (Cod.dec : V → Option TokD) = srtT acc := by
      refine (sort_eq hd ?_ hpa).symm
      have hdis : DisK (es'.filterMap (Cod.dec : V → Option TokD)) := hd.perm hpa.symm fun h => Ne.symm h
      rw [hdec, List.pairwise_map] at hs
      unfold DisK at hdis
      refine (hs.and hdis).imp fun {a b} h => ?_
      obtain ⟨h1, h2⟩ := h
      rw [cdT_enc, cmpT_neg] at h1
      unfold LtT
      cases h3 : ltS (kT a) (kT b) with
      | true => rfl
      | false => exact absurd (lt_total h3 (by simpa using h1)) h2
    rw [hdec, heq]
    exact hK
end Go.Proofs.Ytlkejejgaenjcaa
