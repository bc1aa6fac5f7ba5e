/-
  Calls that are walked into.
-/
import Derived.Test.YtnafhnnhhdmnfaaIdlZG
namespace Go.Idl
set_option linter.all false
open Go.RowKit

variable {P : Program} {Φ : Specs} {C : Ctx}

/-- What a body hands back, as it stands. -/
def rawF (P : Program) (rs : List ResultVar) (s : SF) : Option V := packR (resLF P s rs)
@[go_sem ↓] theorem rawF_at (rs : List ResultVar) (τ : Nat → V) (H : Heap) (n : Nat) : rawF P rs ⟨τ, H, n⟩ = packR (resLF P ⟨τ, H, n⟩ rs) := nd rfl
@[go_sem ↓] theorem packR_0 : packR (some []) = some (.tup []) := nd rfl
def endC (K : V → SF → Prop) (s : SF) : Option V → Prop
  | some v => K v s
  | none => False
@[congr] theorem endC_congr {K : V → SF → Prop} {s : SF} {x x' : Option V} (h : x = x') : endC K s x = endC K s x' := by rw [h]
@[go_sem ↓] theorem endC_some (K : V → SF → Prop) (s : SF) (v : V) : endC K s (some v) = K v s := nd rfl
def endsC (P : Program) (rs : List ResultVar) (K : V → SF → Prop) : Exit → SF → Prop
  | .normal, s => endC K s (rawF P rs s)
  | .ret, s => endC K s (rawF P rs s)
  | _, _ => False
@[go_sem ↓] theorem endsC_normal (rs : List ResultVar) (K : V → SF → Prop) (s : SF) : endsC P rs K .normal s = endC K s (rawF P rs s) := nd rfl
@[go_sem ↓] theorem endsC_ret (rs : List ResultVar) (K : V → SF → Prop) (s : SF) : endsC P rs K .ret s = endC K s (rawF P rs s) := nd rfl

theorem raw_run {fn : Func} {s : SF} {r : V} {γ : Places} {I : Imm} {tm : Array Value} {w : World} (hS : Sim C γ I s.τ s.H tm w) (h : rawF P fn.results.toList s = some r) :
    ∃ u, (results fn tm).run P w = .ok u w ∧ Rep I w γ r u := by
  unfold rawF at h
  cases hl : resLF P s fn.results.toList with
  | none => rw [hl] at h; cases h
  | some xs =>
    rw [hl] at h
    obtain ⟨vs, hv1, hv2, hv3⟩ := resLF_run hS _ _ hl
    have hrun : (fn.results.mapM (resM tm)).run P w = .ok vs.toArray w := by
      rw [Array.mapM_eq_mapM_toList]
      simp only [Functor.map, Sem.run_bind', hv1, Result.andThen_ok]
      rfl
    refine ⟨if h : vs.toArray.size = 1 then vs.toArray[0] else .tuple vs.toArray, ?_, ?_⟩
    · rw [results_eq]
      simp only [Sem.run_bind, hrun, Result.andThen_ok, Sem.run_pure]
    · match xs, vs, hv2, hv3, h with
      | [], [], _, _, h => cases h; exact .tup _ _ _ rfl (by simp)
      | [_], [_], _, hv3, h => cases h; exact hv3 0 _ _ rfl rfl
      | x :: y :: zs, a :: b :: cs, hl2, hv3, h =>
        cases h
        rw [dif_neg (by simp)]
        exact .tup _ _ _ (by simpa using hl2) fun j c u hc hu => hv3 j c u hc (by simpa using hu)

/-- A CALL IS WALKED INTO. -/
theorem CallT.of_walk (hg : Good P Φ) (K' : List Nat) {f : FuncId} {nt : Nat} {rs : List ResultVar} {ic : IC} (hf : factsI P f = some (nt, rs, ic)) {vs : List V} {s : SF} {K : V → SF → Prop} (hn : vs.length ≤ nt)
    (h : ∀ C' : Ctx, (∀ m, (∀ t, (s.τ t).low m = true) → LowC C m → LowC C' m) → walkI P Φ C' nt K' ic ⟨pars vs, s.H, s.n⟩ (contI P Φ C' nt K' (endsC P rs K) [])) : CallT P C f vs s K := by
  refine ⟨facts_enters hf, ?_⟩
  unfold factsI at hf
  split at hf
  · split at hf
    · rename_i fn hfn
      split at hf
      · rename_i c hc
        split at hf
        · rename_i hok
          simp only [Option.map_eq_some_iff, Prod.mk.injEq] at hf
          obtain ⟨ic', hic, rfl, rfl, rfl⟩ := hf
          intro tm w γ I args hS hlen hrep
          refine calls_of_wp hfn hc ?_
          let C' : Ctx := ⟨C.I0, C.w0, (s.τ, tm) :: C.keep⟩
          have hlow : ∀ m, (∀ t, (s.τ t).low m = true) → LowC C m → LowC C' m := fun m h1 h2 fr hf t => by
            rcases List.mem_cons.1 hf with e | e
            · subst e; exact h1 t
            · exact h2 fr e t
          have hS' : SimF C' ⟨pars vs, s.H, s.n⟩ { tmps := args ++ Array.replicate (fn.ntmps - args.size) undef, defers := [] } w := by
            refine ⟨γ, I, {
              below := hS.below
              imm0 := hS.imm0
              immB := hS.immB
              immS := hS.immS
              tmp := fun t => ?_
              kept := fun fr hf t => ?_
              dom := hS.dom
              obj := hS.obj
              ext := hS.ext
              inj := hS.inj }⟩
            · show Rep I w γ (pars vs t) _
              rw [pars_eq]
              by_cases ht : t < args.size
              · have hx : vs[t]? = some vs[t] := List.getElem?_eq_getElem (by omega)
                have hu : args[t]? = some args[t] := by simp [ht]
                rw [hx, Option.getD_some]
                have := hrep t _ _ hx hu
                simpa [Array.getElem?_append_left ht, hu] using this
              · rw [List.getElem?_eq_none (by omega)]
                exact .any _ _
            · rcases List.mem_cons.1 hf with e | e
              · subst e; exact hS.tmp t
              · exact hS.kept fr e t
          refine wp_mono (walkI_sound hg c ic' _ _ hic (h C' hlow) hok _ w (by simp; omega) rfl hS') ?_
          rintro e a' w' ⟨_, hd, s', hres, γ', I', hS2⟩
          have hq : (e = .normal ∨ e = .ret) ∧ ∃ v, rawF P fn.results.toList s' = some v ∧ K v s' := by
            simp only [contI_nil] at hres
            cases e with
            | normal =>
              rw [endsC_normal] at hres
              cases hv : rawF P fn.results.toList s' with
              | none => rw [hv] at hres; exact hres.elim
              | some v => rw [hv] at hres; exact ⟨.inl rfl, v, rfl, hres⟩
            | ret =>
              rw [endsC_ret] at hres
              cases hv : rawF P fn.results.toList s' with
              | none => rw [hv] at hres; exact hres.elim
              | some v => rw [hv] at hres; exact ⟨.inr rfl, v, rfl, hres⟩
            | _ => exact hres.elim
          obtain ⟨he, v, hv, hk⟩ := hq
          obtain ⟨u, hrun, hr⟩ := raw_run (fn := fn) hS2 hv
          have hback : Sim C γ' I' s.τ s'.H tm w' := {
            below := hS2.below
            imm0 := hS2.imm0
            immB := hS2.immB
            immS := hS2.immS
            tmp := fun t => hS2.kept (s.τ, tm) (List.mem_cons_self ..) t
            kept := fun fr hf t => hS2.kept fr (List.mem_cons_of_mem _ hf) t
            dom := hS2.dom
            obj := hS2.obj
            ext := hS2.ext
            inj := hS2.inj }
          have hpost : ∃ v, (results fn a'.tmps).run P w' = .ok v w' ∧ ∃ u v' s'', (Ending.returned v) = .returned u ∧ K v' s'' ∧ ∃ γ' I', Sim C γ' I' s.τ s''.H tm w' ∧ Rep I' w' γ' v' u :=
            ⟨u, hrun, u, v, s', rfl, hk, γ', I', hback, hr⟩
          rcases he with rfl | rfl
          · exact ⟨hd, hpost⟩
          · exact ⟨hd, hpost⟩
        · cases hf
      · cases hf
    · cases hf
  · cases hf

@[go_sem ↓] theorem inlV_fn (vs : List V) (s : SF) (K : V → SF → Prop) (f : FuncId) (xs ys : List V) : inlV P C vs s K (.fn (.func f) xs ys) = CallT P C f (xs ++ vs ++ ys) s K := nd rfl
@[go_sem ↓] theorem inlV_sc (vs : List V) (s : SF) (K : V → SF → Prop) (f : FuncId) : inlV P C vs s K (.sc (.func (.func f) #[] #[])) = CallT P C f vs s K := by simp [inlV, fnOf]
@[congr] theorem inlV_congr {vs vs' : List V} {s : SF} {K : V → SF → Prop} {x x' : V} (h1 : vs = vs') (h : x = x') : inlV P C vs s K x = inlV P C vs' s K x' := by rw [h, h1]
@[congr] theorem CallT_congr {f : FuncId} {vs vs' : List V} {s : SF} {K : V → SF → Prop} (h1 : vs = vs') : CallT P C f vs s K = CallT P C f vs' s K := by rw [h1]
@[go_sem ↓] theorem ev_mkf (n : Nat) (τ : Nat → V) (H : Heap) (fn : Fn) (xs ys : List A) : evIO P Φ n τ H (.mkf fn xs ys) = some (.fn fn (xs.map (A.get τ)) (ys.map (A.get τ)), []) := nd rfl
@[go_sem ↓] theorem ev_callv (n : Nat) (τ : Nat → V) (H : Heap) (x : A) (xs : List A) : evIO P Φ n τ H (.callv x xs) = none := nd rfl
@[go_sem ↓] theorem callI_none (H : Heap) (vs : List V) : callI H vs none = none := nd rfl

end Go.Idl
