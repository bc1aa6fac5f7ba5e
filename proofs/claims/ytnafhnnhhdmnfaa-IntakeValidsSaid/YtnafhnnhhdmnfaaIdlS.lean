/-
  A function's contract out of its body.
-/
import Derived.Test.YtnafhnnhhdmnfaaIdlR
namespace Go.Idl
set_option linter.all false
open Go.RowKit

variable {P : Program} {C : Ctx} {γ : Places} {I : Imm} {τ : Nat → V} {H : Heap} {tm : Array Value} {w : World}

theorem load_run (hS : Sim C γ I τ H tm w) {t : TypeId} {x v : V} {ux : Value} (h : evLoad P H t x = some v) (hx : Rep I w γ x ux) :
    ∃ g y u, ux = .pointer (some ⟨g, y, none⟩) ∧ (loadVar t ⟨g, y, none⟩).run P w = .ok u w ∧ Rep I w γ v u := by
  unfold evLoad at h
  split at h
  · rename_i id idx off
    split at h
    · rename_i sz es mu hl
      cases he : es[idx]? with
      | none => simp [he] at h
      | some e =>
        simp only [he, Option.bind_some] at h
        rcases hS.obj id sz es mu hl with h0 | ⟨p, c, t', ho'⟩
        · rw [h0.1] at he; simp at he
        · cases hx with
          | ref _ _ _ _ q hq =>
            rw [ho'.place] at hq
            cases hq
            obtain ⟨f, hf1, hf2⟩ := ho'.elem he
            obtain ⟨y, hy, hr⟩ := run_readC (w := w) (γ := γ) (I := I) h hf1 hf2
            rw [ho'.size]
            exact ⟨_, _, y, rfl, hy, hr⟩
    · cases h
  · rename_i e off
    cases hx with
    | elem _ _ _ g b f hc hh =>
      obtain ⟨y, hy, hr⟩ := run_readC (w := w) (γ := noPlaces) (I := I) h (fun j hj => (hc j hj).2) hh
      exact ⟨_, _, y, rfl, hy, hr.mono (Pres.refl I w) (fun _ _ h => h) (by simp [noPlaces])⟩
  · cases h

def resM (tm : Array Value) : ResultVar → Sem Value
  | .tmp t => pure (tm.getD t undef)
  | .cell a t => do loadVar t (← asAddr (tm.getD a undef))

theorem results_eq (fn : Func) (tm : Array Value) : results fn tm = (do let vs ← fn.results.mapM (resM tm); pure (if h : vs.size = 1 then vs[0] else .tuple vs)) := by
  unfold results
  congr 1

theorem resL_run {s : St} (hS : Sim C γ I (getT s.τ) (getO s.H) tm w) : ∀ (rs : List ResultVar) (xs : List V), resL P s rs = some xs →
    ∃ vs : List Value, (rs.mapM (resM tm)).run P w = .ok vs w ∧ xs.length = vs.length ∧ ∀ (j : Nat) (x : V) (u : Value), xs[j]? = some x → vs[j]? = some u → Rep I w γ x u
  | [], xs, h => by
    simp [resL] at h
    subst h
    exact ⟨[], rfl, rfl, by simp⟩
  | r :: rs, xs, h => by
    simp only [resL] at h
    split at h
    · rename_i x xs' h1 h2
      cases h
      obtain ⟨vs, hv1, hv2, hv3⟩ := resL_run hS rs xs' h2
      have fin : ∀ {u : Value}, (resM tm r).run P w = .ok u w → Rep I w γ x u →
          ∃ vs : List Value, ((r :: rs).mapM (resM tm)).run P w = .ok vs w ∧ (x :: xs').length = vs.length ∧ ∀ (j : Nat) (x0 : V) (u : Value), (x :: xs')[j]? = some x0 → vs[j]? = some u → Rep I w γ x0 u := by
        intro u hu hr
        refine ⟨u :: vs, ?_, by simp [hv2], fun j x0 u0 hx hu0 => ?_⟩
        · rw [List.mapM_cons]
          simp only [Sem.run_bind, hu, hv1, Result.andThen_ok, Sem.run_pure]
        · cases j with
          | zero => simp at hx hu0; subst hx hu0; exact hr
          | succ j => exact hv3 j x0 u0 (by simpa using hx) (by simpa using hu0)
      cases r with
      | tmp t =>
        simp only [resOne, Option.some.injEq] at h1
        subst h1
        exact fin (u := tm.getD t undef) rfl (hS.tmp t)
      | cell a t =>
        simp only [resOne] at h1
        obtain ⟨g, y, u, hu, hl, hr⟩ := load_run hS h1 (hS.tmp a)
        refine fin (u := u) ?_ hr
        simp only [resM]
        rw [hu]
        simp [asAddr, hl]
    · cases h

theorem resV_run {fn : Func} {s : St} {r : V} (hS : Sim C γ I (getT s.τ) (getO s.H) tm w) (h : resV P fn s = some r) :
    ∃ u I', (results fn tm).run P w = .ok u w ∧ Rep I' w noPlaces r u ∧ (∀ g x, I' g x → C.I0 g x ∨ (C.w0.heap.size ≤ g ∧ g < w.heap.size)) := by
  unfold resV at h
  cases hl : resL P s fn.results.toList with
  | none => simp [hl] at h
  | some xs =>
    simp only [hl, Option.bind_some, Option.map_eq_some_iff] at h
    obtain ⟨ys, hfz, hr⟩ := h
    obtain ⟨vs, hv1, hv2, hv3⟩ := resL_run hS _ _ hl
    obtain ⟨⟨I', hI', hS'⟩, hlast⟩ := Sim.froze (getO s.H) (xs.flatMap V.ids) hS (fun id sz es hl => ⟨true, hl⟩)
    obtain ⟨hf1, hf2⟩ := freezes_get hfz
    -- the objects that are looked at
    have hfix : ∀ x, x ∈ xs → ∀ y u, freeze (getO s.H) x = some y → Rep I w γ x u → Rep I' w noPlaces y u := by
      intro x hx y u hy hu
      have hids : ∀ id, id ∈ x.ids → id ∈ xs.flatMap V.ids := fun id hid => List.mem_flatMap.2 ⟨x, hx, hid⟩
      have hu' : Rep I' w γ x u := hu.mono (Pres.refl I w) hI' fun _ _ h => h
      -- one cell
      have one : ∀ (c d : V) (uc : Value), (∀ id, id ∈ c.idsC → id ∈ xs.flatMap V.ids) → freezeC (getO s.H) c = some d → Rep I' w γ c uc → Rep I' w noPlaces d uc := by
        intro c d uc hc hd huc
        have hh : freezeC (fun y => if y ∈ c.idsC then getO s.H y else .dead) c = some d := by
          cases c with
          | own id off len => simpa [freezeC, V.idsC] using hd
          | _ => first | (simp [freezeC] at hd; done) | simpa [freezeC] using hd
        refine freezeC_rep hS' (h := fun y => if y ∈ c.idsC then getO s.H y else .dead) (fun id sz es mu hlv hall => ?_) hh huc
        split at hlv
        · rename_i hm
          refine hlast id sz es mu hlv ?_
          cases mu with
          | false => exact .inl rfl
          | true => exact .inr ⟨hc id hm, hlv, hall⟩
        · cases hlv
      cases x with
      | agg cs =>
        simp only [freeze, Option.map_eq_some_iff] at hy
        obtain ⟨zs, hzs, rfl⟩ := hy
        obtain ⟨g1, g2⟩ := freezeL_get hzs
        cases hu' with
        | agg _ _ us hlen hh' =>
          refine .agg _ _ _ (by omega) fun j c z hc hz => ?_
          obtain ⟨c0, hc0, hfc⟩ := g2 j c hc
          refine one c0 c z (fun id hid => hids id ?_) hfc (hh' j c0 z hc0 hz)
          simp only [V.ids, List.mem_flatMap]
          exact ⟨c0, List.mem_of_getElem? hc0, hid⟩
      | own id off len => exact one (.own id off len) _ _ hids (by simpa only [freeze] using hy) hu'
      | _ => exact one _ _ _ (by simp [V.idsC]) (by simpa only [freeze] using hy) hu'
    have hrep : ∀ (j : Nat) (y : V) (u : Value), ys[j]? = some y → vs[j]? = some u → Rep I' w noPlaces y u := by
      intro j y u hy hu
      obtain ⟨x, hx, hfx⟩ := hf2 j y hy
      exact hfix x (List.mem_of_getElem? hx) y u hfx (hv3 j x u hx hu)
    have hrun : (fn.results.mapM (resM tm)).run P w = .ok vs.toArray w := by
      rw [Array.mapM_eq_mapM_toList]
      simp only [Functor.map, Sem.run_bind', hv1, Result.andThen_ok]
      rfl
    refine ⟨if h : vs.toArray.size = 1 then vs.toArray[0] else .tuple vs.toArray, I', ?_, ?_, fun g x hx => ?_⟩
    · rw [results_eq]
      simp only [Sem.run_bind, hrun, Result.andThen_ok, Sem.run_pure]
    · have hlen : ys.length = vs.length := by omega
      subst hr
      split
      · rename_i x
        have h1 : vs.length = 1 := by simpa using hlen.symm
        rw [dif_pos (by simpa using h1)]
        refine hrep 0 x _ rfl ?_
        simp
      · rename_i hne
        have h1 : ¬ vs.toArray.size = 1 := by
          intro h1
          simp at h1
          rw [h1] at hlen
          obtain ⟨x, rfl⟩ := List.length_eq_one_iff.1 hlen
          exact hne x rfl
        rw [dif_neg h1]
        exact .tup _ _ _ (by simpa using hlen) fun j c u hc hu => hrep j c u hc (by simpa using hu)
    · rcases hS'.immB g x hx with h1 | h1
      · exact .inl h1
      · exact .inr ⟨h1, hS'.immS g x hx⟩

theorem start_sim {args : Array Value} {xs : List V} {n : Nat} (hlen : xs.length = args.size) (hr : ∀ (j : Nat) (x : V) (u : Value), xs[j]? = some x → args[j]? = some u → Rep C.I0 C.w0 noPlaces x u)
    (hI : ∀ g x, C.I0 g x → g < C.w0.heap.size) (hk : C.keep = []) : SimS C ⟨xs, []⟩ { tmps := args ++ Array.replicate n undef, defers := [] } C.w0 := by
  have get : ∀ (l : List V) (t : Nat), getT l t = (l[t]?).getD .any := by
    intro l
    induction l with
    | nil => intro t; simp [getT]
    | cons x l ih => intro t; cases t <;> simp [getT, ih]
  refine ⟨noPlaces, C.I0, {
    below := Below.refl _ _
    imm0 := fun _ _ h => h
    immB := fun _ _ h => .inl h
    immS := hI
    tmp := fun t => ?_
    kept := fun fr hf => by rw [hk] at hf; cases hf
    dom := by simp [noPlaces]
    obj := by simp [getO]
    ext := by simp [getO]
    inj := by simp [noPlaces] }⟩
  simp only [get]
  by_cases ht : t < args.size
  · have hx : xs[t]? = some xs[t] := List.getElem?_eq_getElem (by omega)
    have hu : args[t]? = some args[t] := by simp [ht]
    rw [hx, Option.getD_some]
    have := hr t _ _ hx hu
    simpa [Array.getElem?_append_left ht, hu] using this
  · rw [List.getElem?_eq_none (by omega)]
    exact .any _ _

/-- A FUNCTION's CONTRACT, out of its body. -/
theorem contract_of {f : FuncId} {fn : Func} {c : Code} {F : List V → Option V} (hf : P.funcs[f]? = some fn) (hb : fn.body = some c) (hok : okCode fn.ntmps c = true)
    (hp : ∀ xs r, F xs = some r → xs.length ≤ fn.ntmps) (h : ∀ C xs r, F xs = some r → Tri P C fn.ntmps c ⟨xs, []⟩ fun e s' => (e = .normal ∨ e = .ret) ∧ resV P fn s' = some r) : Contract P f F := by
  intro I w args xs r hlen hrep hI hF
  refine calls_of_wp hf hb ?_
  have hsz := hp xs r hF
  refine wp_mono (h ⟨I, w, []⟩ xs r hF hok _ w (by simp; omega) rfl (start_sim (C := ⟨I, w, []⟩) hlen hrep hI rfl)) ?_
  rintro e a' w' ⟨_, hd, s', ⟨he, hres⟩, γ, I', hS⟩
  obtain ⟨u, I2, hrun, hr, hI2⟩ := resV_run hS hres
  have hpost : ∃ v, (results fn a'.tmps).run P w' = .ok v w' ∧ ∃ u, (Ending.returned v) = .returned u ∧ Below w.heap.size w w' ∧ Rep (fun g x => I g x ∨ (w.heap.size ≤ g ∧ g < w'.heap.size)) w' noPlaces r u :=
    ⟨u, hrun, u, rfl, hS.below, hr.mono (Pres.refl _ _) hI2 fun _ _ h => h⟩
  rcases he with rfl | rfl
  · exact ⟨hd, hpost⟩
  · exact ⟨hd, hpost⟩

end Go.Idl
