/-
  A law's row out of its contract: whatever is read, the call returns true, and the arguments read as before.
-/
import Derived.Test.YtnafhnnhhdmnfaaIdlZA
import Derived.ChangeSame
import Derived.Carry
import Derived.JoinedCond
namespace Go.Idl
set_option linter.all false
open Go.RowKit Go.WideShapes Go.ChangeShapes

/-- Arguments of these types, as a reading gives them. -/
def ShapeArgs (P : Program) (f : Nat) : List TypeId → List V → Prop
  | [], xs => xs = []
  | t :: ts, xs => ∃ cs ys, xs = V.ofCells (aggT P t) cs :: ys ∧ Shape P f t cs ∧ ShapeArgs P f ts ys

section
variable {H : Type} {enc : TypeId × Value → H} {P : Program}

theorem arg_shape {W : World} {base : Nat} {f : Nat} {t : TypeId} {v : Value} {d : DataW H} {p : List MemPlace} (hv : Value.okWide P W .any base t v) (h : DataW.Trod enc P W 0 (fun _ => true) true t v d p) (hp : plainT P f t = true) :
    ∃ cs, Shape P f t cs ∧ Rep (fun g _ => g < W.heap.size) W noPlaces (V.ofCells (aggT P t) cs) v := by
  obtain ⟨fuel, h⟩ := h
  obtain ⟨xs, h1, h2⟩ := trod_shape fuel t _ d p f h hp
  refine ⟨xs, h2, ?_⟩
  unfold Value.okWide at hv
  cases ha : aggT P t with
  | true =>
    have : ∃ cs, v = .agg cs := by
      unfold aggT at ha
      split at ha <;> rename_i hu
      · rw [hu] at hv; obtain ⟨cs, h, _⟩ := hv; exact ⟨cs, h⟩
      · rw [hu] at hv; obtain ⟨cs, h, _⟩ := hv; exact ⟨cs, h⟩
      · cases ha
    obtain ⟨cs, rfl⟩ := this
    simp only [V.ofCells, if_true]
    have := repAll_agg (t := t) h1
    simpa [Value.cells] using this
  | false =>
    obtain ⟨x, rfl, hx⟩ := plain_cells P hp h2 ha
    have hc : v.cells = #[v] := by
      cases v with
      | agg cs =>
        exfalso
        cases f with
        | zero => simp [plainT] at hp
        | succ f =>
          simp only [plainT] at hp
          unfold aggT at ha
          cases hu : P.underlying t with
          | none => rw [hu] at hp; simp at hp
          | some ty =>
            have key : ∀ d : TypeDesc, P.underlying t = some d → (match d with | .bool => True | .int _ => True | .string => True | .slice _ => True | _ => False) → Cell.okWide P W .any base t (.agg cs) → False := by
              intro d hd hm hc
              unfold Cell.okWide at hc
              rw [hd] at hc
              cases d <;> simp only at hm <;> (simp only [Cell.ok, hd] at hc)
            rw [hu] at hv hp ha
            cases ty <;> first | (exact key _ hu trivial hv) | (cases ha; done) | (cases hp; done)
      | _ => rfl
    have := h1.2 0 x v rfl (by simp [hc])
    simpa [V.ofCells] using this

theorem args_shape {W : World} {base : Nat} {f : Nat} : ∀ (ts : List TypeId) (vs : List Value) (ds : List (DataW H)) (p : List MemPlace),
    (∀ (j : Nat) t v, ts[j]? = some t → vs[j]? = some v → Value.okWide P W .any base t v) → DataW.TrodAll enc P W 0 (fun _ => true) true ts vs ds p → ts.all (plainT P f) = true →
    ∃ xs, xs.length = vs.length ∧ (∀ (j : Nat) x u, xs[j]? = some x → vs[j]? = some u → Rep (fun g _ => g < W.heap.size) W noPlaces x u) ∧ ShapeArgs P f ts xs ∧ ds.length = ts.length
  | [], [], [], _, _, _, _ => ⟨[], rfl, by simp, rfl, rfl⟩
  | t :: ts, v :: vs, d :: ds, p, hv, h, hp => by
    obtain ⟨p1, p2, h1, h2, rfl⟩ := h
    simp only [List.all_cons, Bool.and_eq_true] at hp
    obtain ⟨cs, hs, hr⟩ := arg_shape (hv 0 t v rfl rfl) h1 hp.1
    obtain ⟨xs, k1, k2, k3, k4⟩ := args_shape ts vs ds p2 (fun j t' v' h1 h2 => hv (j + 1) t' v' (by simpa using h1) (by simpa using h2)) h2 hp.2
    refine ⟨V.ofCells (aggT P t) cs :: xs, by simp [k1], fun j x u hx hu => ?_, ⟨cs, xs, rfl, hs, k3⟩, by simp [k4]⟩
    cases j with
    | zero => simp at hx hu; subst hx hu; exact hr
    | succ j => exact k2 j x u (by simpa using hx) (by simpa using hu)
  | [], _ :: _, _, _, _, h, _ => by simp [DataW.TrodAll] at h
  | [], [], _ :: _, _, _, h, _ => by simp [DataW.TrodAll] at h
  | _ :: _, [], _, _, _, h, _ => by simp [DataW.TrodAll] at h
  | _ :: _, _ :: _, [], _, _, h, _ => by simp [DataW.TrodAll] at h

theorem trodAll_stays (hl : laidOutB P = true) {W W' : World} {sp : Nat → Bool} (hb : Below W.heap.size W W') : ∀ (ts : List TypeId) (vs : List Value) (ds : List (DataW H)) (p : List MemPlace),
    ts.all (fun t => P.readableRec t && decide (t < P.types.size)) = true → DataW.TrodAll enc P W 0 (fun _ => true) true ts vs ds p → (∀ x ∈ p, x.block < W.heap.size ∧ sp x.block = true) →
    DataW.TrodAll enc P W' 0 sp true ts vs ds p
  | [], [], [], _, _, h, _ => h
  | t :: ts, v :: vs, d :: ds, p, hr, h, hsp => by
    obtain ⟨p1, p2, h1, h2, rfl⟩ := h
    simp only [List.all_cons, Bool.and_eq_true, decide_eq_true_eq] at hr
    refine ⟨p1, p2, ?_, trodAll_stays hl hb ts vs ds p2 hr.2 h2 (fun x hx => hsp x (by simp [hx])), rfl⟩
    exact WideElems.Trod_stays hl hr.1.1 hr.1.2 h1 (fun x hx => hb.same (hsp x (by simp [hx])).1) (fun x hx => (hsp x (by simp [hx])).2)
  | [], _ :: _, _, _, _, h, _ => by simp [DataW.TrodAll] at h
  | [], [], _ :: _, _, _, h, _ => by simp [DataW.TrodAll] at h
  | _ :: _, [], _, _, _, h, _ => by simp [DataW.TrodAll] at h
  | _ :: _, _ :: _, [], _, _, h, _ => by simp [DataW.TrodAll] at h

theorem post_of_below {f : Func} {s : ChangeSpec} {apart fresh handsOn again : Bool} {W W' : World} {args : Array Value} {v : Value} {ds gs : List (DataW H)} {before pa pv : List MemPlace}
    (hW : DataW.Whole enc P f.params.toList s.vars apart W args.toList ds gs before)
    (hres : ∀ (b : Nat) (sp : Nat → Bool) (hd : Bool), DataW.TrodAll enc P W' b sp hd f.resultTypes.toList (v.resultList f.resultTypes.size) (s.fn H (ds ++ gs)).results [])
    (hargs : ∀ sp : Nat → Bool, (∀ p ∈ before, sp p.block = true) → DataW.TrodAll enc P W' 0 sp true f.params.toList args.toList (s.fn H (ds ++ gs)).args pa)
    (hvars : ∀ sp : Nat → Bool, (∀ p ∈ before, sp p.block = true) → DataW.TrodVars enc P W' sp s.vars (s.fn H (ds ++ gs)).vars pv)
    (hps : before = pa ++ pv) (hb : Below W.heap.size W W')
    (hok : ∀ (j : Nat) (t : TypeId) (r : Value), f.resultTypes[j]? = some t → (v.resultList f.resultTypes.size)[j]? = some r → Value.okWide P W' .any 0 t r) :
    s.post enc P f apart fresh handsOn again W args v W' := by
  have hlt : ∀ p ∈ before, p.block < W.heap.size := fun p hp => hW.lt p hp
  have hold : ∀ p ∈ before, (fun b => decide (b < W.heap.size)) p.block = true := fun p hp => by simpa using hlt p hp
  refine ⟨ds, gs, before, [], pa, pv, hW, hres _ _ _, hargs _ hold, hvars _ hold, World.keptBut_mono (fun p hp => ⟨hp, ?_⟩) (hb.frame (· ∈ before)), fun _ => ?_⟩
  · rw [hps, List.mem_append] at hp
    exact Or.inr hp
  · obtain ⟨_, _, _, _, _, hz, hn⟩ := hW
    refine ⟨hok, _, _, ([] ++ pa) ++ pv, ⟨[] ++ pa, pv, trodAll_append (hargs _ (fun _ _ => rfl)) (hres _ _ _), hvars _ (fun _ _ => rfl), rfl, ?_, ?_⟩, ?_⟩
    · intro b off hp
      have hin : MemPlace.cell b off ∈ before := by rw [hps]; simpa using hp
      rw [hb.frozen (hlt _ hin)]
      exact hz b off hin
    · intro ha
      have := hn ha
      rw [hps] at this
      simpa using this
    · intro p hp _
      rw [hps]
      simpa using hp

/-- A LAW's CALL. -/
theorem law_calls {f : FuncId} {fn : Func} {s : ChangeSpec} {apart fresh handsOn again : Bool} {tb : TypeId} {n : Nat} {F : List V → Option V} (hsv : s.vars = [])
    (hs : ∀ ds : List (DataW H), ds.length = fn.params.toList.length → s.fn H ds = { results := [.lit (.bool true)], args := ds }) (hrt : fn.resultTypes = #[tb]) (htb : P.underlying tb = some .bool) (hl : laidOutB P = true)
    (hr : fn.params.toList.all (fun t => P.readableRec t && decide (t < P.types.size)) = true) (hp : fn.params.toList.all (plainT P n) = true) (con : Contract P f F)
    {W : World} {base : Nat} {args : Array Value} {ds gs : List (DataW H)} {before : List MemPlace}
    (hval : ∀ (j : Nat) t v, fn.params[j]? = some t → args[j]? = some v → Value.okWide P W .any base t v)
    (hW : DataW.Whole enc P fn.params.toList s.vars apart W args.toList ds gs before)
    (hF : ∀ xs, ShapeArgs P n fn.params.toList xs → F xs = some (.sc (.bool true))) :
    Calls P f args W fun e W' => ∃ v, e = .returned v ∧ s.post enc P fn apart fresh handsOn again W args v W' := by
  have hW' := hW
  obtain ⟨p, q, hA, hV, rfl, _, _⟩ := hW
  rw [hsv] at hV
  have hg : gs = [] ∧ q = [] := by
    cases gs with
    | nil => exact ⟨rfl, hV⟩
    | cons => simp [DataW.TrodVars] at hV
  obtain ⟨rfl, rfl⟩ := hg
  obtain ⟨xs, h1, h2, h3, h4⟩ := args_shape (f := n) _ _ _ _ (fun j t v ht hv => hval j t v (by simpa using ht) (by simpa using hv)) hA hp
  refine (con (fun g _ => g < W.heap.size) W args xs _ (by simpa using h1) (fun j x u hx hu => h2 j x u hx (by simpa using hu)) (fun _ _ h => h) (hF xs h3)).mono ?_
  rintro e W' ⟨u, rfl, hb, hr'⟩
  have hu := hr'.sc_eq
  subst hu
  have hsf := hs ds h4
  refine ⟨_, rfl, ?_⟩
  refine post_of_below (pa := p) (pv := []) hW' (fun b sp hd => ?_) (fun sp hsp => ?_) (fun sp _ => ?_) rfl hb (ok_one hrt rfl (okWide_bool_mk htb _))
  · rw [List.append_nil, hsf, hrt]
    exact trodAll_mk1 (shut_bool htb true)
  · rw [List.append_nil, hsf]
    exact trodAll_stays hl hb _ _ _ _ hr hA fun x hx => ⟨hW'.lt x (by simpa using hx), hsp x (by simpa using hx)⟩
  · rw [List.append_nil, hsf, hsv]
    rfl

end
end Go.Idl
