/-
  Rules by which a walk is simplified, from the outside in: what stands behind an operation is not looked at before the operation is done.
-/
import Derived.Test.YtnafhnnhhdmnfaaIdlW
import Derived.Attr
namespace Go.Idl
set_option linter.all false
universe u

variable {P : Program} {Φ : Specs} {C : Ctx} {N : Nat} {K : List Nat} {oi : Option Ins}

/-- An equation by unfolding that is used as an equation (the kernel need not unfold again). -/
theorem nd {α : Sort u} {a b : α} (h : a = b) : a = b := h

/-! ### Slots -/
@[go_sem ↓] theorem get_t (τ : Nat → V) (n : Nat) : (A.t n).get τ = τ n := nd rfl
@[go_sem ↓] theorem get_k (τ : Nat → V) (v : V) : (A.k v).get τ = v := nd rfl
@[go_sem ↓] theorem updT_at (τ : Nat → V) (d : Nat) (v : V) (t : Nat) : updT τ d v t = if t = d then v else τ t := nd rfl
@[go_sem ↓] theorem pars_zero (x : V) (xs : List V) : pars (x :: xs) 0 = x := nd rfl
@[go_sem ↓] theorem pars_succ (x : V) (xs : List V) (n : Nat) : pars (x :: xs) (n + 1) = pars xs n := nd rfl
@[go_sem ↓] theorem pars_nil (n : Nat) : pars [] n = .any := nd rfl
def memN : List Nat → Nat → Bool
  | [], _ => false
  | k :: ks, t => if t = k then true else memN ks t
@[go_sem ↓] theorem memN_nil (t : Nat) : memN [] t = false := nd rfl
@[go_sem ↓] theorem memN_cons (k : Nat) (ks : List Nat) (t : Nat) : memN (k :: ks) t = if t = k then true else memN ks t := nd rfl
theorem memN_eq (K : List Nat) (t : Nat) : K.contains t = memN K t := by
  induction K with
  | nil => rfl
  | cons k ks ih =>
    rw [memN_cons, ← ih, List.contains_cons]
    by_cases e : t = k
    · simp [e]
    · simp [e]
@[go_sem ↓] theorem prune_at (K : List Nat) (τ : Nat → V) (t : Nat) : prune K τ t = if memN K t = true then τ t else .any := by
  unfold prune
  rw [memN_eq]
@[go_sem ↓] theorem prune_updT (K : List Nat) (τ : Nat → V) (d : Nat) (v : V) : prune K (updT τ d v) = if memN K d = true then updT (prune K τ) d v else prune K τ := by
  rw [prune_upd, memN_eq]
attribute [go_sem ↓] prune_prune

/-! ### Objects -/
@[go_sem ↓] theorem updH_at (H : Heap) (id : Nat) (x : Obj) (y : Nat) : updH H id x y = if y = id then x else H y := nd rfl

/-! ### A region -/
def stepI (P : Program) (Φ : Specs) (C : Ctx) (Q : SF → Prop) (rest : List IOp) (d : Option Nat) (io : Option Ins) (τ : Nat → V) (H : Heap) (n : Nat) : Option (V × List (Nat × Obj)) → Prop
  | some (v, δ) => seqI P Φ C Q rest ⟨putF τ d v, putH H δ, bump n δ⟩
  | none => match io with
    | some io => inlI P C io ⟨τ, H, n⟩ fun v s' => seqI P Φ C Q rest ⟨putF τ d v, s'.H, s'.n⟩
    | none => False
/-- Behind a test its outcome stands in its slot. -/
def guardI (P : Program) (Φ : Specs) (C : Ctx) (Q : SF → Prop) (rest : List IOp) (d : Option Nat) (io : Ins) (t : Nat) (want : Bool) (τ : Nat → V) (H : Heap) (n : Nat) : V → Prop
  | .sc (.bool b) => (b = want → seqI P Φ C Q (⟨d, none, io⟩ :: rest) ⟨updT τ t (.sc (.bool want)), H, n⟩) ∧ (b = !want → seqI P Φ C Q rest ⟨putF (updT τ t (.sc (.bool (!want)))) d (.sc undef), H, n⟩)
  | .sc (.tuple x) => seqI P Φ C Q rest ⟨putF (updT τ t (.sc (.tuple x))) d (.sc undef), H, n⟩
  | _ => False

@[congr] theorem stepI_congr {Q : SF → Prop} {rest : List IOp} {d : Option Nat} {io : Option Ins} {τ : Nat → V} {H : Heap} {n : Nat} {e e' : Option (V × List (Nat × Obj))} (h : e = e') : stepI P Φ C Q rest d io τ H n e = stepI P Φ C Q rest d io τ H n e' := by rw [h]
@[congr] theorem guardI_congr {Q : SF → Prop} {rest : List IOp} {d : Option Nat} {io : Ins} {t : Nat} {want : Bool} {τ : Nat → V} {H : Heap} {n : Nat} {e e' : V} (h : e = e') : guardI P Φ C Q rest d io t want τ H n e = guardI P Φ C Q rest d io t want τ H n e' := by rw [h]

theorem updT_self {τ : Nat → V} {t : Nat} {v : V} (h : τ t = v) : updT τ t v = τ := by
  funext x
  unfold updT
  by_cases e : x = t
  · subst e; simp [h]
  · simp [e]

@[go_sem ↓] theorem seqI_nil (Q : SF → Prop) (s : SF) : seqI P Φ C Q [] s = Q s := nd rfl
@[go_sem ↓] theorem seqI_un (Q : SF → Prop) (rest : List IOp) (d : Option Nat) (io : Ins) (τ : Nat → V) (H : Heap) (n : Nat) :
    seqI P Φ C Q (⟨d, none, io⟩ :: rest) ⟨τ, H, n⟩ = stepI P Φ C Q rest d (some io) τ H n (evIO P Φ n τ H io) := by
  simp only [seqI, wantI, true_implies, reduceCtorEq, false_implies, and_true]
  generalize evIO P Φ n τ H io = e
  cases e <;> simp [stepI]
@[go_sem ↓] theorem seqI_gd (Q : SF → Prop) (rest : List IOp) (d : Option Nat) (t : Nat) (want : Bool) (io : Ins) (τ : Nat → V) (H : Heap) (n : Nat) :
    seqI P Φ C Q (⟨d, some (some t, want), io⟩ :: rest) ⟨τ, H, n⟩ = guardI P Φ C Q rest d io t want τ H n (τ t) := by
  rw [seqI]
  simp only [wantI]
  generalize hv : τ t = v
  cases v with
  | sc u =>
    cases u with
    | bool b =>
      simp only [guardI, seqI_un]
      cases b <;> cases want <;> simp [updT_self hv] <;> (generalize evIO P Φ n τ H io = e; cases e <;> simp [stepI])
    | tuple => simp [guardI, updT_self hv]
    | _ => simp [guardI]
  | _ => simp [guardI]

@[go_sem ↓] theorem stepI_none (Q : SF → Prop) (rest : List IOp) (d : Option Nat) (τ : Nat → V) (H : Heap) (n : Nat) : stepI P Φ C Q rest d none τ H n none = False := nd rfl
@[go_sem ↓] theorem stepI_inl (Q : SF → Prop) (rest : List IOp) (d : Nat) (f : FuncId) (xs : List A) (τ : Nat → V) (H : Heap) (n : Nat) : stepI P Φ C Q rest (some d) (some (.call f xs)) τ H n none = CallT P C f (xs.map (A.get τ)) ⟨τ, H, n⟩ fun v s' => seqI P Φ C Q rest ⟨updT τ d v, s'.H, s'.n⟩ := nd rfl
@[go_sem ↓] theorem stepI_inlv (Q : SF → Prop) (rest : List IOp) (d : Nat) (x : A) (xs : List A) (τ : Nat → V) (H : Heap) (n : Nat) : stepI P Φ C Q rest (some d) (some (.callv x xs)) τ H n none = inlV P C (xs.map (A.get τ)) ⟨τ, H, n⟩ (fun v s' => seqI P Φ C Q rest ⟨updT τ d v, s'.H, s'.n⟩) (x.get τ) := nd rfl
@[go_sem ↓] theorem stepI_inln (Q : SF → Prop) (rest : List IOp) (f : FuncId) (xs : List A) (τ : Nat → V) (H : Heap) (n : Nat) : stepI P Φ C Q rest none (some (.call f xs)) τ H n none = CallT P C f (xs.map (A.get τ)) ⟨τ, H, n⟩ fun v s' => seqI P Φ C Q rest ⟨τ, s'.H, s'.n⟩ := nd rfl
@[go_sem ↓] theorem stepI_0 (Q : SF → Prop) (rest : List IOp) (d : Nat) (io : Option Ins) (τ : Nat → V) (H : Heap) (n : Nat) (v : V) : stepI P Φ C Q rest (some d) io τ H n (some (v, [])) = seqI P Φ C Q rest ⟨updT τ d v, H, n⟩ := nd rfl
@[go_sem ↓] theorem stepI_1 (Q : SF → Prop) (rest : List IOp) (d : Nat) (io : Option Ins) (τ : Nat → V) (H : Heap) (n : Nat) (v : V) (i : Nat) (x : Obj) : stepI P Φ C Q rest (some d) io τ H n (some (v, [(i, x)])) = seqI P Φ C Q rest ⟨updT τ d v, updH H i x, n + 1⟩ := nd rfl
@[go_sem ↓] theorem stepI_2 (Q : SF → Prop) (rest : List IOp) (d : Nat) (io : Option Ins) (τ : Nat → V) (H : Heap) (n : Nat) (v : V) (i j : Nat) (x y : Obj) : stepI P Φ C Q rest (some d) io τ H n (some (v, [(i, x), (j, y)])) = seqI P Φ C Q rest ⟨updT τ d v, updH (updH H i x) j y, n + 1⟩ := nd rfl
@[go_sem ↓] theorem stepI_n0 (Q : SF → Prop) (rest : List IOp) (io : Option Ins) (τ : Nat → V) (H : Heap) (n : Nat) (v : V) : stepI P Φ C Q rest none io τ H n (some (v, [])) = seqI P Φ C Q rest ⟨τ, H, n⟩ := nd rfl
@[go_sem ↓] theorem stepI_n1 (Q : SF → Prop) (rest : List IOp) (io : Option Ins) (τ : Nat → V) (H : Heap) (n : Nat) (v : V) (i : Nat) (x : Obj) : stepI P Φ C Q rest none io τ H n (some (v, [(i, x)])) = seqI P Φ C Q rest ⟨τ, updH H i x, n + 1⟩ := nd rfl
@[go_sem ↓] theorem guardI_tt (Q : SF → Prop) (rest : List IOp) (d : Nat) (io : Ins) (t : Nat) (τ : Nat → V) (H : Heap) (n : Nat) :
    guardI P Φ C Q rest (some d) io t true τ H n (.sc (.bool true)) = seqI P Φ C Q (⟨some d, none, io⟩ :: rest) ⟨updT τ t (.sc (.bool true)), H, n⟩ := by simp [guardI]
@[go_sem ↓] theorem guardI_ff (Q : SF → Prop) (rest : List IOp) (d : Nat) (io : Ins) (t : Nat) (τ : Nat → V) (H : Heap) (n : Nat) :
    guardI P Φ C Q rest (some d) io t false τ H n (.sc (.bool false)) = seqI P Φ C Q (⟨some d, none, io⟩ :: rest) ⟨updT τ t (.sc (.bool false)), H, n⟩ := by simp [guardI]
@[go_sem ↓] theorem guardI_tf (Q : SF → Prop) (rest : List IOp) (d : Nat) (io : Ins) (t : Nat) (τ : Nat → V) (H : Heap) (n : Nat) :
    guardI P Φ C Q rest (some d) io t true τ H n (.sc (.bool false)) = seqI P Φ C Q rest ⟨updT (updT τ t (.sc (.bool false))) d (.sc undef), H, n⟩ := by simp [guardI, putF]
@[go_sem ↓] theorem guardI_ft (Q : SF → Prop) (rest : List IOp) (d : Nat) (io : Ins) (t : Nat) (τ : Nat → V) (H : Heap) (n : Nat) :
    guardI P Φ C Q rest (some d) io t false τ H n (.sc (.bool true)) = seqI P Φ C Q rest ⟨updT (updT τ t (.sc (.bool true))) d (.sc undef), H, n⟩ := by simp [guardI, putF]
/-- What is so only behind a test. -/
def whenV (b want : Bool) (v : V) : V := if b = want then v else .sc undef
def whenE (b want : Bool) (e : Option (V × List (Nat × Obj))) : Option (V × List (Nat × Obj)) := if b = want then e else none
def selV (b : Bool) (x y : V) : V := if b = true then x else y
theorem notNot {b want : Bool} (h : b = want) : b = (!want) → False := by cases b <;> cases want <;> simp_all
@[congr] theorem whenV_congr {b want : Bool} {v v' : V} (h : b = want → (b = (!want) → False) → v = v') : whenV b want v = whenV b want v' := by
  unfold whenV; split
  · rename_i e; rw [h e (notNot e)]
  · rfl
@[congr] theorem whenE_congr {b want : Bool} {e e' : Option (V × List (Nat × Obj))} (h : b = want → (b = (!want) → False) → e = e') : whenE b want e = whenE b want e' := by
  unfold whenE; split
  · rename_i e; rw [h e (notNot e)]
  · rfl
@[congr] theorem selV_congr {b : Bool} {x x' y y' : V} (h1 : b = true → (b = (!true) → False) → x = x') (h2 : b = false → (b = (!false) → False) → y = y') : selV b x y = selV b x' y' := by
  unfold selV; split
  · rename_i e; rw [h1 e (notNot e)]
  · rename_i e; rw [h2 (by simpa using e) (notNot (by simpa using e))]
/-- Behind its own test a value is what it is. -/
@[go_sem ↓] theorem whenV_pre {b want : Bool} {v : V} (h : b = (!want) → False) : whenV b want v = v := by
  unfold whenV
  rw [if_pos]
  cases b <;> cases want <;> simp_all
@[go_sem ↓] theorem whenV_tt (v : V) : whenV true true v = v := nd rfl
@[go_sem ↓] theorem whenV_ff (v : V) : whenV false false v = v := nd rfl
@[go_sem ↓] theorem whenV_tf (v : V) : whenV true false v = .sc undef := nd rfl
@[go_sem ↓] theorem whenV_ft (v : V) : whenV false true v = .sc undef := nd rfl
theorem whenV_is {b want : Bool} {v : V} (h : b = want) : whenV b want v = v := by unfold whenV; rw [if_pos h]
@[go_sem] theorem whenV_t {b : Bool} {v : V} (h : b = true) : whenV b true v = v := whenV_is h
@[go_sem] theorem whenV_f {b : Bool} {v : V} (h : b = false) : whenV b false v = v := whenV_is h
theorem whenE_same (b : Bool) (e : Option (V × List (Nat × Obj))) : whenE b b e = e := by unfold whenE; rw [if_pos rfl]
@[go_sem ↓] theorem selV_t (x y : V) : selV true x y = x := nd rfl
@[go_sem ↓] theorem selV_f (x y : V) : selV false x y = y := nd rfl
@[go_sem] theorem selV_or (b v : Bool) : selV b (.sc (.bool true)) (.sc (.bool v)) = .sc (.bool (b || v)) := by cases b <;> rfl
@[go_sem] theorem selV_and (b v : Bool) : selV b (.sc (.bool v)) (.sc (.bool false)) = .sc (.bool (b && v)) := by cases b <;> rfl
@[go_sem low] theorem selV_bool (b x y : Bool) : selV b (.sc (.bool x)) (.sc (.bool y)) = .sc (.bool (if b = true then x else y)) := by cases b <;> rfl
@[go_sem] theorem selV_int (b : Bool) (k : IntKind) (x y : Int) : selV b (.sc (.int k x)) (.sc (.int k y)) = .sc (.int k (if b = true then x else y)) := by cases b <;> rfl
@[go_sem] theorem selV_str (b : Bool) (x y : ByteArray) : selV b (.sc (.string x)) (.sc (.string y)) = .sc (.string (if b = true then x else y)) := by cases b <;> rfl
def stepC (P : Program) (Φ : Specs) (C : Ctx) (Q : SF → Prop) (rest : List IOp) (oi : Option Ins) (d t : Nat) (want : Bool) (τ : Nat → V) (H : Heap) (n : Nat) (b : Bool) (e : Option (V × List (Nat × Obj))) : Prop :=
  (b = want → stepI P Φ C Q rest (some d) oi (updT τ t (.sc (.bool want))) H n e) ∧ (b = !want → seqI P Φ C Q rest ⟨updT (updT τ t (.sc (.bool (!want)))) d (.sc undef), H, n⟩)
@[congr] theorem stepC_congr {Q : SF → Prop} {rest : List IOp} {d t : Nat} {want : Bool} {τ : Nat → V} {H : Heap} {n : Nat} {b : Bool} {e e' : Option (V × List (Nat × Obj))} (h : e = e') : stepC P Φ C Q rest oi d t want τ H n b e = stepC P Φ C Q rest oi d t want τ H n b e' := by rw [h]
@[go_sem] theorem guardI_bool (Q : SF → Prop) (rest : List IOp) (d : Nat) (io : Ins) (t : Nat) (want : Bool) (τ : Nat → V) (H : Heap) (n : Nat) (b : Bool) :
    guardI P Φ C Q rest (some d) io t want τ H n (.sc (.bool b)) = stepC P Φ C Q rest (some io) d t want τ H n b (whenE b want (evIO P Φ n (updT τ t (.sc (.bool want))) H io)) := by
  simp only [guardI, stepC, seqI_un, putF, whenE]
  by_cases h : b = want
  · simp [h]
  · simp [h]
@[go_sem ↓] theorem stepC_pure (Q : SF → Prop) (rest : List IOp) (d t : Nat) (want : Bool) (τ : Nat → V) (H : Heap) (n : Nat) (b : Bool) (v : V) :
    stepC P Φ C Q rest oi d t want τ H n b (whenE b want (some (v, []))) = seqI P Φ C Q rest ⟨updT (updT τ t (.sc (.bool b))) d (whenV b want v), H, n⟩ := by
  simp only [stepC, whenE, whenV]
  cases b <;> cases want <;> simp [stepI, putF, putH, bump]
@[go_sem ↓] theorem stepC_1 (Q : SF → Prop) (rest : List IOp) (d t : Nat) (want : Bool) (τ : Nat → V) (H : Heap) (n : Nat) (b : Bool) (v : V) (j : Nat) (x : Obj) (δ : List (Nat × Obj)) :
    stepC P Φ C Q rest oi d t want τ H n b (whenE b want (some (v, (j, x) :: δ))) = ((b = want → stepI P Φ C Q rest (some d) oi (updT τ t (.sc (.bool want))) H n (some (v, (j, x) :: δ))) ∧ (b = !want → seqI P Φ C Q rest ⟨updT (updT τ t (.sc (.bool (!want)))) d (.sc undef), H, n⟩)) := by
  simp only [stepC, whenE]
  cases b <;> cases want <;> simp
@[go_sem ↓] theorem guardI_undef (Q : SF → Prop) (rest : List IOp) (d : Nat) (io : Ins) (t : Nat) (want : Bool) (τ : Nat → V) (H : Heap) (n : Nat) : guardI P Φ C Q rest (some d) io t want τ H n (.sc undef) = seqI P Φ C Q rest ⟨updT (updT τ t (.sc undef)) d (.sc undef), H, n⟩ := nd rfl
section
variable (Q : SF → Prop) (rest : List IOp) (d t : Nat) (τ : Nat → V) (H : Heap) (n : Nat) (e : Option (V × List (Nat × Obj)))
@[go_sem ↓] theorem stepC_tf : stepC P Φ C Q rest oi d t true τ H n false e = seqI P Φ C Q rest ⟨updT (updT τ t (.sc (.bool false))) d (.sc undef), H, n⟩ := by simp [stepC]
@[go_sem ↓] theorem stepC_ft : stepC P Φ C Q rest oi d t false τ H n true e = seqI P Φ C Q rest ⟨updT (updT τ t (.sc (.bool true))) d (.sc undef), H, n⟩ := by simp [stepC]
@[go_sem ↓] theorem stepC_tt : stepC P Φ C Q rest oi d t true τ H n true e = stepI P Φ C Q rest (some d) oi (updT τ t (.sc (.bool true))) H n e := by simp [stepC]
@[go_sem ↓] theorem stepC_ff : stepC P Φ C Q rest oi d t false τ H n false e = stepI P Φ C Q rest (some d) oi (updT τ t (.sc (.bool false))) H n e := by simp [stepC]
@[go_sem ↓] theorem whenE_tt : whenE true true e = e := whenE_same _ _
@[go_sem ↓] theorem whenE_ff : whenE false false e = e := whenE_same _ _
end
/-- A test within a test. -/
def stepC2 (P : Program) (Φ : Specs) (C : Ctx) (Q : SF → Prop) (rest : List IOp) (oi : Option Ins) (d t : Nat) (want : Bool) (τ : Nat → V) (H : Heap) (n : Nat) (b1 w1 v : Bool) (e : Option (V × List (Nat × Obj))) : Prop :=
  (b1 = w1 → stepC P Φ C Q rest oi d t want τ H n v e) ∧ (b1 = !w1 → seqI P Φ C Q rest ⟨updT (updT τ t (.sc undef)) d (.sc undef), H, n⟩)
@[congr] theorem stepC2_congr {Q : SF → Prop} {rest : List IOp} {d t : Nat} {want : Bool} {τ : Nat → V} {H : Heap} {n : Nat} {b1 w1 v : Bool} {e e' : Option (V × List (Nat × Obj))} (h : e = e') :
    stepC2 P Φ C Q rest oi d t want τ H n b1 w1 v e = stepC2 P Φ C Q rest oi d t want τ H n b1 w1 v e' := by rw [h]
@[go_sem] theorem guardI_when (Q : SF → Prop) (rest : List IOp) (d : Nat) (io : Ins) (t : Nat) (want : Bool) (τ : Nat → V) (H : Heap) (n : Nat) (b1 w1 v : Bool) :
    guardI P Φ C Q rest (some d) io t want τ H n (whenV b1 w1 (.sc (.bool v))) = stepC2 P Φ C Q rest (some io) d t want τ H n b1 w1 v (whenE b1 w1 (whenE v want (evIO P Φ n (updT τ t (.sc (.bool want))) H io))) := by
  by_cases h : b1 = w1
  · subst h
    rw [whenV_is rfl, guardI_bool]
    simp [stepC2, whenE]
  · have hn : b1 = !w1 := by cases b1 <;> cases w1 <;> simp_all
    have hu : whenV b1 w1 (.sc (.bool v)) = .sc undef := by unfold whenV; rw [if_neg h]
    rw [hu, guardI_undef]
    unfold stepC2
    simp [h, hn]
@[go_sem ↓] theorem stepC2_pure (Q : SF → Prop) (rest : List IOp) (d t : Nat) (want : Bool) (τ : Nat → V) (H : Heap) (n : Nat) (b1 w1 v : Bool) (x : V) :
    stepC2 P Φ C Q rest oi d t want τ H n b1 w1 v (whenE b1 w1 (whenE v want (some (x, [])))) = seqI P Φ C Q rest ⟨updT (updT τ t (whenV b1 w1 (.sc (.bool v)))) d (whenV b1 w1 (whenV v want x)), H, n⟩ := by
  unfold stepC2
  cases b1 <;> cases w1 <;> simp [whenE_same, whenV_tt, whenV_ff, whenV_tf, whenV_ft, stepC_pure]
@[go_sem ↓] theorem stepC2_1 (Q : SF → Prop) (rest : List IOp) (d t : Nat) (want : Bool) (τ : Nat → V) (H : Heap) (n : Nat) (b1 w1 v : Bool) (x : V) (j : Nat) (o : Obj) (δ : List (Nat × Obj)) :
    stepC2 P Φ C Q rest oi d t want τ H n b1 w1 v (whenE b1 w1 (whenE v want (some (x, (j, o) :: δ)))) = ((b1 = w1 → stepC P Φ C Q rest oi d t want τ H n v (whenE v want (some (x, (j, o) :: δ)))) ∧ (b1 = !w1 → seqI P Φ C Q rest ⟨updT (updT τ t (.sc undef)) d (.sc undef), H, n⟩)) := by
  unfold stepC2
  cases b1 <;> cases w1 <;> simp [whenE_same]
section
variable (Q : SF → Prop) (rest : List IOp) (d t : Nat) (want : Bool) (τ : Nat → V) (H : Heap) (n : Nat) (v : Bool) (e : Option (V × List (Nat × Obj)))
@[go_sem ↓] theorem stepC2_tf : stepC2 P Φ C Q rest oi d t want τ H n true false v e = seqI P Φ C Q rest ⟨updT (updT τ t (.sc undef)) d (.sc undef), H, n⟩ := by simp [stepC2]
@[go_sem ↓] theorem stepC2_ft : stepC2 P Φ C Q rest oi d t want τ H n false true v e = seqI P Φ C Q rest ⟨updT (updT τ t (.sc undef)) d (.sc undef), H, n⟩ := by simp [stepC2]
@[go_sem ↓] theorem stepC2_tt : stepC2 P Φ C Q rest oi d t want τ H n true true v e = stepC P Φ C Q rest oi d t want τ H n v e := by simp [stepC2]
@[go_sem ↓] theorem stepC2_ff : stepC2 P Φ C Q rest oi d t want τ H n false false v e = stepC P Φ C Q rest oi d t want τ H n v e := by simp [stepC2]
end
def stepC3 (P : Program) (Φ : Specs) (C : Ctx) (Q : SF → Prop) (rest : List IOp) (oi : Option Ins) (d t : Nat) (want : Bool) (τ : Nat → V) (H : Heap) (n : Nat) (b0 w0 b1 w1 v : Bool) (e : Option (V × List (Nat × Obj))) : Prop :=
  (b0 = w0 → stepC2 P Φ C Q rest oi d t want τ H n b1 w1 v e) ∧ (b0 = !w0 → seqI P Φ C Q rest ⟨updT (updT τ t (.sc undef)) d (.sc undef), H, n⟩)
@[congr] theorem stepC3_congr {Q : SF → Prop} {rest : List IOp} {d t : Nat} {want : Bool} {τ : Nat → V} {H : Heap} {n : Nat} {b0 w0 b1 w1 v : Bool} {e e' : Option (V × List (Nat × Obj))} (h : e = e') :
    stepC3 P Φ C Q rest oi d t want τ H n b0 w0 b1 w1 v e = stepC3 P Φ C Q rest oi d t want τ H n b0 w0 b1 w1 v e' := by rw [h]
@[go_sem] theorem guardI_when3 (Q : SF → Prop) (rest : List IOp) (d : Nat) (io : Ins) (t : Nat) (want : Bool) (τ : Nat → V) (H : Heap) (n : Nat) (b0 w0 b1 w1 v : Bool) :
    guardI P Φ C Q rest (some d) io t want τ H n (whenV b0 w0 (whenV b1 w1 (.sc (.bool v)))) = stepC3 P Φ C Q rest (some io) d t want τ H n b0 w0 b1 w1 v (whenE b0 w0 (whenE b1 w1 (whenE v want (evIO P Φ n (updT τ t (.sc (.bool want))) H io)))) := by
  by_cases h : b0 = w0
  · subst h
    rw [whenV_is rfl, guardI_when]
    simp [stepC3, whenE]
  · have hn : b0 = !w0 := by cases b0 <;> cases w0 <;> simp_all
    have hu : whenV b0 w0 (whenV b1 w1 (.sc (.bool v))) = .sc undef := by unfold whenV; rw [if_neg h]
    rw [hu, guardI_undef]
    unfold stepC3
    simp [h, hn]
@[go_sem ↓] theorem stepC3_pure (Q : SF → Prop) (rest : List IOp) (d t : Nat) (want : Bool) (τ : Nat → V) (H : Heap) (n : Nat) (b0 w0 b1 w1 v : Bool) (x : V) :
    stepC3 P Φ C Q rest oi d t want τ H n b0 w0 b1 w1 v (whenE b0 w0 (whenE b1 w1 (whenE v want (some (x, []))))) = seqI P Φ C Q rest ⟨updT (updT τ t (whenV b0 w0 (whenV b1 w1 (.sc (.bool v))))) d (whenV b0 w0 (whenV b1 w1 (whenV v want x))), H, n⟩ := by
  unfold stepC3
  cases b0 <;> cases w0 <;> simp [whenE_same, whenV_tt, whenV_ff, whenV_tf, whenV_ft, stepC2_pure]
@[go_sem ↓] theorem stepC3_1 (Q : SF → Prop) (rest : List IOp) (d t : Nat) (want : Bool) (τ : Nat → V) (H : Heap) (n : Nat) (b0 w0 b1 w1 v : Bool) (x : V) (j : Nat) (o : Obj) (δ : List (Nat × Obj)) :
    stepC3 P Φ C Q rest oi d t want τ H n b0 w0 b1 w1 v (whenE b0 w0 (whenE b1 w1 (whenE v want (some (x, (j, o) :: δ))))) = ((b0 = w0 → stepC2 P Φ C Q rest oi d t want τ H n b1 w1 v (whenE b1 w1 (whenE v want (some (x, (j, o) :: δ))))) ∧ (b0 = !w0 → seqI P Φ C Q rest ⟨updT (updT τ t (.sc undef)) d (.sc undef), H, n⟩)) := by
  unfold stepC3
  cases b0 <;> cases w0 <;> simp [whenE_same]

/-! ### Code -/
def condI (P : Program) (Φ : Specs) (C : Ctx) (N : Nat) (K : List Nat) (x y : IC) (s : SF) (Q : Exit → SF → Prop) : V → Prop
  | .sc (.bool t) => (t = true → walkI P Φ C N K x s Q) ∧ (t = false → walkI P Φ C N K y s Q)
  | _ => False
@[congr] theorem condI_congr {x y : IC} {s : SF} {Q : Exit → SF → Prop} {v v' : V} (h : v = v') : condI P Φ C N K x y s Q v = condI P Φ C N K x y s Q v' := by rw [h]

@[go_sem ↓] theorem walkI_skip (s : SF) (Q : Exit → SF → Prop) : walkI P Φ C N K .skip s Q = Q .normal s := nd rfl
@[go_sem ↓] theorem walkI_exit (id : Nat) (s : SF) (Q : Exit → SF → Prop) : walkI P Φ C N K (.exit id) s Q = Q (.exit id) s := nd rfl
@[go_sem ↓] theorem walkI_ret (s : SF) (Q : Exit → SF → Prop) : walkI P Φ C N K .ret s Q = Q .ret s := nd rfl
/-- What is to be done behind a piece of code, as a list. -/
inductive Fr where
  | seq (y : IC)
  | blk (id : Nat)
def contI (P : Program) (Φ : Specs) (C : Ctx) (N : Nat) (K : List Nat) (R : Exit → SF → Prop) : List Fr → Exit → SF → Prop
  | [], e, s => R e s
  | .seq y :: fr, e, s => andThenF (fun s' => walkI P Φ C N K y s' (contI P Φ C N K R fr)) (contI P Φ C N K R fr) e s
  | .blk id :: fr, e, s => inBlockF id (contI P Φ C N K R fr) e s
def endReg (P : Program) (Φ : Specs) (C : Ctx) (N : Nat) (K : List Nat) (R : Exit → SF → Prop) (fr : List Fr) (s' : SF) : Prop := contI P Φ C N K R fr .normal ⟨prune K s'.τ, s'.H, s'.n⟩
section
variable (R : Exit → SF → Prop) (fr : List Fr)
@[go_sem ↓] theorem endReg_at (τ : Nat → V) (H : Heap) (n : Nat) : endReg P Φ C N K R fr ⟨τ, H, n⟩ = contI P Φ C N K R fr .normal ⟨prune K τ, H, n⟩ := nd rfl
@[go_sem ↓] theorem contI_nil (e : Exit) (s : SF) : contI P Φ C N K R [] e s = R e s := nd rfl
@[go_sem ↓] theorem contI_seq_normal (y : IC) (s : SF) : contI P Φ C N K R (.seq y :: fr) .normal s = walkI P Φ C N K y s (contI P Φ C N K R fr) := nd rfl
@[go_sem ↓] theorem contI_seq_exit (y : IC) (id : Nat) (s : SF) : contI P Φ C N K R (.seq y :: fr) (.exit id) s = contI P Φ C N K R fr (.exit id) s := nd rfl
@[go_sem ↓] theorem contI_seq_ret (y : IC) (s : SF) : contI P Φ C N K R (.seq y :: fr) .ret s = contI P Φ C N K R fr .ret s := nd rfl
@[go_sem ↓] theorem contI_blk_normal (id : Nat) (s : SF) : contI P Φ C N K R (.blk id :: fr) .normal s = contI P Φ C N K R fr .normal s := nd rfl
@[go_sem ↓] theorem contI_blk_ret (id : Nat) (s : SF) : contI P Φ C N K R (.blk id :: fr) .ret s = contI P Φ C N K R fr .ret s := nd rfl
@[go_sem ↓] theorem contI_blk_exit (id id' : Nat) (s : SF) : contI P Φ C N K R (.blk id :: fr) (.exit id') s = if id' = id then contI P Φ C N K R fr .normal s else contI P Φ C N K R fr (.exit id') s := nd rfl
@[go_sem ↓] theorem walkI_seq (x y : IC) (s : SF) : walkI P Φ C N K (.seq x y) s (contI P Φ C N K R fr) = walkI P Φ C N K x s (contI P Φ C N K R (.seq y :: fr)) := nd rfl
@[go_sem ↓] theorem walkI_block (id : Nat) (b : IC) (s : SF) : walkI P Φ C N K (.block id b) s (contI P Φ C N K R fr) = walkI P Φ C N K b s (contI P Φ C N K R (.blk id :: fr)) := nd rfl
@[go_sem ↓] theorem walkI_loop (b : IC) (s : SF) (Q : Exit → SF → Prop) : walkI P Φ C N K (.loop b) s Q = TriI P C N (.loop b) s Q := nd rfl
@[go_sem ↓] theorem walkI_reg (ops : List IOp) (s : SF) : walkI P Φ C N K (.reg ops) s (contI P Φ C N K R fr) = seqI P Φ C (endReg P Φ C N K R fr) ops s := nd rfl
end
@[go_sem ↓] theorem walkI_cond (c : A) (x y : IC) (τ : Nat → V) (H : Heap) (n : Nat) (Q : Exit → SF → Prop) : walkI P Φ C N K (.cond c x y) ⟨τ, H, n⟩ Q = condI P Φ C N K x y ⟨τ, H, n⟩ Q (c.get τ) := by
  simp only [walkI]
  generalize c.get τ = v
  cases v with
  | sc u => cases u <;> rfl
  | _ => rfl
@[go_sem ↓] theorem condI_tt (x y : IC) (s : SF) (Q : Exit → SF → Prop) : condI P Φ C N K x y s Q (.sc (.bool true)) = walkI P Φ C N K x s Q := by simp [condI]
@[go_sem ↓] theorem condI_ff (x y : IC) (s : SF) (Q : Exit → SF → Prop) : condI P Φ C N K x y s Q (.sc (.bool false)) = walkI P Φ C N K y s Q := by simp [condI]
@[go_sem] theorem condI_bool (x y : IC) (s : SF) (Q : Exit → SF → Prop) (t : Bool) : condI P Φ C N K x y s Q (.sc (.bool t)) = ((t = true → walkI P Φ C N K x s Q) ∧ (t = false → walkI P Φ C N K y s Q)) := nd rfl
/-! ### Operations -/
section
variable (n : Nat) (τ : Nat → V) (H : Heap)
def pickI (x y : V) : V → Option (V × List (Nat × Obj))
  | .sc (.bool t) => some (if t then x else y, [])
  | _ => none
def loadO (ag : Option Nat) (idx off : Nat) : Obj → Option (V × List (Nat × Obj))
  | .live _ es _ => (es[idx]?).bind fun e => (readI ag e.cells off).map (·, [])
  | _ => none
def loadI (ag : Option Nat) (H : Heap) : V → Option (V × List (Nat × Obj))
  | .ref id idx off => loadO ag idx off (H id)
  | .elem e off => (readI ag e.cells off).map (·, [])
  | _ => none
@[congr] theorem loadI_congr {ag : Option Nat} {v v' : V} (h : v = v') : loadI ag H v = loadI ag H v' := by rw [h]
def boxI (n : Nat) (x : V) : Obj → Option (V × List (Nat × Obj))
  | .unborn => if x.solid then some (.ref n 0 0, [(n, .live x.cells.length [x] true)]) else none
  | _ => none
def allocI (n : Nat) (z : V) (k : Nat) : Obj → Option (V × List (Nat × Obj))
  | .unborn => some (.ref n 0 0, [(n, .live k [z] true)])
  | _ => none
def storeO (k : Nat) (y : V) (id idx off : Nat) : Obj → Option (V × List (Nat × Obj))
  | .live sz es true => (es[idx]?).bind fun e => if y.solid = true ∧ y.cells.length = k ∧ 0 < k ∧ off + k ≤ sz then some (.any, [(id, .live sz (es.set idx (e.write off y)) true)]) else none
  | _ => none
def storeI (k : Nat) (y : V) (H : Heap) : V → Option (V × List (Nat × Obj))
  | .ref id idx off => storeO k y id idx off (H id)
  | _ => none
@[congr] theorem storeI_congr {k : Nat} {y y' v v' : V} (h1 : y = y') (h : v = v') : storeI k y H v = storeI k y' H v' := by rw [h, h1]
def extI (i : Nat) : V → Option (V × List (Nat × Obj))
  | .tup vs => (vs[i]?).map (·, [])
  | _ => none
def lenI (P : Program) (τ : Nat → V) (o : Oper) : V → Option (V × List (Nat × Obj))
  | .sc _ => evPure P (opd τ) o
  | y => (y.len).map fun (k : Nat) => (V.sc (.int .i64 (k : Int)), [])
def callF (r : Option V) : Option (V × List (Nat × Obj)) := r.map (·, [])

@[go_sem ↓] theorem ev_mv (x : A) : evIO P Φ n τ H (.mv x) = some (x.get τ, []) := nd rfl
@[go_sem ↓] theorem ev_pick (c x y : A) : evIO P Φ n τ H (.pick c x y) = pickI (x.get τ) (y.get τ) (c.get τ) := by
  simp only [evIO]
  generalize c.get τ = v
  cases v with
  | sc u => cases u <;> rfl
  | _ => rfl
@[go_sem ↓] theorem pickI_bool (x y : V) (t : Bool) : pickI x y (.sc (.bool t)) = some (selV t x y, []) := nd rfl
@[go_sem ↓] theorem ev_ld (ag : Option Nat) (x : A) : evIO P Φ n τ H (.ld ag x) = loadI ag H (x.get τ) := by
  simp only [evIO]
  generalize x.get τ = v
  cases v <;> first | rfl | (dsimp only [loadI]; generalize H _ = ob; cases ob <;> rfl)
@[go_sem ↓] theorem loadI_ref (ag : Option Nat) (id idx off : Nat) : loadI ag H (.ref id idx off) = loadO ag idx off (H id) := nd rfl
/-- Of the cells so many from there on. -/
def rdC (ag : Option Nat) (off : Nat) (cs : List V) : Option (V × List (Nat × Obj)) := (readI ag cs off).map (·, [])
def rdE (ag : Option Nat) (off : Nat) : Option V → Option (V × List (Nat × Obj))
  | some e => rdC ag off e.cells
  | none => none
def rdV : Option V → Option (V × List (Nat × Obj))
  | some v => some (v, [])
  | none => none
@[congr] theorem rdC_congr {ag : Option Nat} {off : Nat} {cs cs' : List V} (h : cs = cs') : rdC ag off cs = rdC ag off cs' := by rw [h]
@[congr] theorem rdE_congr {ag : Option Nat} {off : Nat} {cs cs' : Option V} (h : cs = cs') : rdE ag off cs = rdE ag off cs' := by rw [h]
@[congr] theorem rdV_congr {cs cs' : Option V} (h : cs = cs') : rdV cs = rdV cs' := by rw [h]
@[go_sem ↓] theorem rdE_some (ag : Option Nat) (off : Nat) (e : V) : rdE ag off (some e) = rdC ag off e.cells := nd rfl
@[go_sem ↓] theorem rdC_none (off : Nat) (cs : List V) : rdC none off cs = rdV cs[off]? := by
  unfold rdC readI
  cases cs[off]? <;> rfl
@[go_sem ↓] theorem rdC_agg (k off : Nat) (cs : List V) : rdC (some k) off cs = if off + k ≤ cs.length then some (.agg ((cs.drop off).take k), []) else none := by
  unfold rdC readI
  simp only
  split <;> rfl
@[go_sem ↓] theorem rdV_some (v : V) : rdV (some v) = some (v, []) := nd rfl
@[go_sem ↓] theorem cells_agg (cs : List V) : (V.agg cs).cells = cs := nd rfl
@[go_sem ↓] theorem cells_sc (v : Value) : (V.sc v).cells = [.sc v] := nd rfl
@[go_sem ↓] theorem cells_slice (k : Nat) (es : List V) : (V.slice k es).cells = [.slice k es] := nd rfl
@[go_sem ↓] theorem cells_own (id off len : Nat) : (V.own id off len).cells = [.own id off len] := nd rfl
@[go_sem ↓] theorem cells_mt : V.mt.cells = [.mt] := nd rfl
@[go_sem ↓] theorem cells_ref (id idx off : Nat) : (V.ref id idx off).cells = [.ref id idx off] := nd rfl
@[go_sem ↓] theorem loadI_elem (ag : Option Nat) (e : V) (off : Nat) : loadI ag H (.elem e off) = rdC ag off e.cells := nd rfl
@[go_sem ↓] theorem loadO_live (ag : Option Nat) (idx off sz : Nat) (es : List V) (mu : Bool) : loadO ag idx off (.live sz es mu) = rdE ag off es[idx]? := by
  simp only [loadO]
  generalize es[idx]? = x
  cases x <;> rfl
@[go_sem ↓] theorem ev_bx (x : A) : evIO P Φ n τ H (.bx x) = boxI n (x.get τ) (H n) := by
  simp only [evIO, evBox]
  generalize H n = ob
  cases ob <;> rfl
@[go_sem ↓] theorem boxI_unborn (x : V) : boxI n x .unborn = if x.solid = true then some (.ref n 0 0, [(n, .live x.cells.length [x] true)]) else none := nd rfl
@[go_sem ↓] theorem ev_al (z : V) (k : Nat) : evIO P Φ n τ H (.al z k) = allocI n z k (H n) := by
  simp only [evIO]
  generalize H n = ob
  cases ob <;> rfl
@[go_sem ↓] theorem allocI_unborn (z : V) (k : Nat) : allocI n z k .unborn = some (.ref n 0 0, [(n, .live k [z] true)]) := nd rfl
@[go_sem ↓] theorem ev_st (k : Nat) (x y : A) : evIO P Φ n τ H (.st k x y) = storeI k (y.get τ) H (x.get τ) := by
  simp only [evIO]
  generalize x.get τ = v
  cases v <;> first | rfl | (dsimp only [storeI]; generalize H _ = ob; cases ob <;> first | rfl | (rename_i mu; cases mu <;> rfl))
@[go_sem ↓] theorem storeI_ref (k : Nat) (y : V) (id idx off : Nat) : storeI k y H (.ref id idx off) = storeO k y id idx off (H id) := nd rfl
def stE (k : Nat) (y : V) (id idx off sz : Nat) (es : List V) : Option V → Option (V × List (Nat × Obj))
  | some e => if y.solid = true ∧ y.cells.length = k ∧ 0 < k ∧ off + k ≤ sz then some (.any, [(id, .live sz (es.set idx (e.write off y)) true)]) else none
  | none => none
@[congr] theorem stE_congr {k : Nat} {y : V} {id idx off sz : Nat} {es : List V} {e e' : Option V} (h : e = e') : stE k y id idx off sz es e = stE k y id idx off sz es e' := by rw [h]
@[go_sem ↓] theorem stE_some (k : Nat) (y : V) (id idx off sz : Nat) (es : List V) (e : V) :
    stE k y id idx off sz es (some e) = if y.solid = true ∧ y.cells.length = k ∧ 0 < k ∧ off + k ≤ sz then some (.any, [(id, .live sz (es.set idx (e.write off y)) true)]) else none := nd rfl
@[go_sem ↓] theorem storeO_live (k : Nat) (y : V) (id idx off sz : Nat) (es : List V) :
    storeO k y id idx off (.live sz es true) = stE k y id idx off sz es es[idx]? := by
  simp only [storeO]
  generalize es[idx]? = x
  cases x <;> rfl
@[go_sem ↓] theorem ev_sh (off : Nat) (x : A) : evIO P Φ n τ H (.sh off x) = (shift off (x.get τ)).map (·, []) := nd rfl
@[go_sem ↓] theorem shift_ref (k id idx off : Nat) : shift k (.ref id idx off) = some (.ref id idx (off + k)) := nd rfl
@[go_sem ↓] theorem shift_elem (k : Nat) (e : V) (off : Nat) : shift k (.elem e off) = some (.elem e (off + k)) := nd rfl
@[go_sem ↓] theorem ev_ext (x : A) (i : Nat) : evIO P Φ n τ H (.ext x i) = extI i (x.get τ) := by
  simp only [evIO]
  generalize x.get τ = v
  cases v <;> rfl
@[go_sem ↓] theorem extI_tup (i : Nat) (vs : List V) : extI i (.tup vs) = (vs[i]?).map (·, []) := nd rfl
@[go_sem ↓] theorem ev_bin (op : BinOp) (isB : Bool) (x y : A) (o : Oper) : evIO P Φ n τ H (.bin op isB x y o) = evBin P (opd τ) o op isB (x.get τ) (y.get τ) := nd rfl
@[go_sem ↓] theorem ev_un (op : UnOp) (x : A) (o : Oper) : evIO P Φ n τ H (.un op x o) = evUn P (opd τ) o op (x.get τ) := nd rfl
@[congr] theorem evBin_congr {ρ : Operand → V} {o : Oper} {op : BinOp} {isB : Bool} {x x' y y' : V} (h1 : x = x') (h2 : y = y') : evBin P ρ o op isB x y = evBin P ρ o op isB x' y' := by rw [h1, h2]
@[congr] theorem evUn_congr {ρ : Operand → V} {o : Oper} {op : UnOp} {x x' : V} (h1 : x = x') : evUn P ρ o op x = evUn P ρ o op x' := by rw [h1]
section
variable (ρ : Operand → V) (o : Oper) (isB : Bool) (k : IntKind) (a b : Int)
@[go_sem ↓] theorem bin_add : evBin P ρ o .add isB (.sc (.int k a)) (.sc (.int k b)) = some (.sc (.int k (k.wrap (a + b))), []) := by simp [evBin, fastBin, binI]
@[go_sem ↓] theorem bin_sub : evBin P ρ o .sub isB (.sc (.int k a)) (.sc (.int k b)) = some (.sc (.int k (k.wrap (a - b))), []) := by simp [evBin, fastBin, binI]
@[go_sem ↓] theorem bin_mul : evBin P ρ o .mul isB (.sc (.int k a)) (.sc (.int k b)) = some (.sc (.int k (k.wrap (a * b))), []) := by simp [evBin, fastBin, binI]
@[go_sem] theorem bin_quo (h : b ≠ 0) : evBin P ρ o .quo isB (.sc (.int k a)) (.sc (.int k b)) = some (.sc (.int k (k.wrap (a.tdiv b))), []) := by simp [evBin, fastBin, binI, h]
@[go_sem] theorem bin_rem (h : b ≠ 0) : evBin P ρ o .rem isB (.sc (.int k a)) (.sc (.int k b)) = some (.sc (.int k (a.tmod b)), []) := by simp [evBin, fastBin, binI, h]
@[go_sem ↓] theorem bin_eql : evBin P ρ o .eql isB (.sc (.int k a)) (.sc (.int k b)) = some (.sc (.bool (a == b)), []) := by simp [evBin, fastBin, binI]
@[go_sem ↓] theorem bin_neq : evBin P ρ o .neq isB (.sc (.int k a)) (.sc (.int k b)) = some (.sc (.bool (a != b)), []) := by simp [evBin, fastBin, binI]
@[go_sem ↓] theorem bin_lss : evBin P ρ o .lss isB (.sc (.int k a)) (.sc (.int k b)) = some (.sc (.bool (decide (a < b))), []) := by simp [evBin, fastBin, binI]
@[go_sem ↓] theorem bin_leq : evBin P ρ o .leq isB (.sc (.int k a)) (.sc (.int k b)) = some (.sc (.bool (decide (a ≤ b))), []) := by simp [evBin, fastBin, binI]
@[go_sem ↓] theorem bin_gtr : evBin P ρ o .gtr isB (.sc (.int k a)) (.sc (.int k b)) = some (.sc (.bool (decide (a > b))), []) := by simp [evBin, fastBin, binI]
@[go_sem ↓] theorem bin_geq : evBin P ρ o .geq isB (.sc (.int k a)) (.sc (.int k b)) = some (.sc (.bool (decide (a ≥ b))), []) := by simp [evBin, fastBin, binI]
@[go_sem ↓] theorem bin_seql (s t : ByteArray) : evBin P ρ o .eql isB (.sc (.string s)) (.sc (.string t)) = some (.sc (.bool (s.toList == t.toList)), []) := by simp [evBin, fastBin, binS]
@[go_sem ↓] theorem bin_sneq (s t : ByteArray) : evBin P ρ o .neq isB (.sc (.string s)) (.sc (.string t)) = some (.sc (.bool (!(s.toList == t.toList))), []) := by simp [evBin, fastBin, binS]
@[go_sem] theorem bin_shl (k' : IntKind) (h : ¬ b < 0) : evBin P ρ o .shl isB (.sc (.int k a)) (.sc (.int k' b)) = some (.sc (.int k (k.wrap (a * 2 ^ (min b.toNat k.bits)))), []) := by
  by_cases e : k = k' <;> simp [evBin, fastBin, binI, shI, h, e]
@[go_sem] theorem bin_shr (k' : IntKind) (h : ¬ b < 0) : evBin P ρ o .shr isB (.sc (.int k a)) (.sc (.int k' b)) = some (.sc (.int k (a.fdiv (2 ^ (min b.toNat k.bits)))), []) := by
  by_cases e : k = k' <;> simp [evBin, fastBin, binI, shI, h, e]
@[go_sem ↓] theorem bin_slss (s t : ByteArray) : evBin P ρ o .lss isB (.sc (.string s)) (.sc (.string t)) = some (.sc (.bool (ltS s t)), []) := by simp [evBin, fastBin, binS]
@[go_sem ↓] theorem bin_sleq (s t : ByteArray) : evBin P ρ o .leq isB (.sc (.string s)) (.sc (.string t)) = some (.sc (.bool (ltS s t || (s.toList == t.toList))), []) := by simp [evBin, fastBin, binS]
@[go_sem ↓] theorem bin_sgtr (s t : ByteArray) : evBin P ρ o .gtr isB (.sc (.string s)) (.sc (.string t)) = some (.sc (.bool (!(ltS s t || (s.toList == t.toList)))), []) := by simp [evBin, fastBin, binS]
@[go_sem ↓] theorem bin_sgeq (s t : ByteArray) : evBin P ρ o .geq isB (.sc (.string s)) (.sc (.string t)) = some (.sc (.bool (!ltS s t)), []) := by simp [evBin, fastBin, binS]
@[go_sem] theorem bin_sadd {s t : ByteArray} (h : ((s.size + t.size : Nat) : Int) ≤ IntKind.i64.max) : evBin P ρ o .add isB (.sc (.string s)) (.sc (.string t)) = some (.sc (.string (s ++ t)), []) := by
  have : ¬ (((s.size + t.size : Nat) : Int) > IntKind.i64.max) := by omega
  simp only [evBin, fastBin, binS, if_neg this]
@[go_sem ↓] theorem bin_beql (s t : Bool) : evBin P ρ o .eql true (.sc (.bool s)) (.sc (.bool t)) = some (.sc (.bool (s == t)), []) := by simp [evBin, fastBin, binB]
@[go_sem ↓] theorem bin_bneq (s t : Bool) : evBin P ρ o .neq true (.sc (.bool s)) (.sc (.bool t)) = some (.sc (.bool (s != t)), []) := by simp [evBin, fastBin, binB]
@[go_sem ↓] theorem un_not (b : Bool) : evUn P ρ o .not (.sc (.bool b)) = some (.sc (.bool (!b)), []) := nd rfl
@[go_sem ↓] theorem un_neg : evUn P ρ o .neg (.sc (.int k a)) = some (.sc (.int k (k.wrap (0 - a))), []) := nd rfl
end
@[go_sem ↓] theorem ev_len (x : A) (o : Oper) : evIO P Φ n τ H (.len x o) = lenI P τ o (x.get τ) := by
  simp only [evIO]
  generalize x.get τ = v
  cases v <;> rfl
@[go_sem ↓] theorem lenI_slice (o : Oper) (sz : Nat) (es : List V) : lenI P τ o (.slice sz es) = some (.sc (.int .i64 (es.length : Int)), []) := nd rfl
@[go_sem ↓] theorem lenI_own (o : Oper) (id off len : Nat) : lenI P τ o (.own id off len) = some (.sc (.int .i64 (len : Int)), []) := nd rfl
@[go_sem ↓] theorem lenI_mt (o : Oper) : lenI P τ o .mt = some (.sc (.int .i64 0), []) := nd rfl
end

section
variable (n : Nat) (τ : Nat → V) (H : Heap)
def callK (δ : List (Nat × Obj)) : Option V → Option (V × List (Nat × Obj))
  | some r => some (r, δ)
  | none => none
def callJ (F : List V → Option V) (δ : List (Nat × Obj)) : Option (List V) → Option (V × List (Nat × Obj))
  | some ys => callK δ (F ys)
  | none => none
def callI (H : Heap) (vs : List V) : Option (List V → Option V) → Option (V × List (Nat × Obj))
  | some F => callJ F (froze H (vs.flatMap V.ids)) (freezes H vs)
  | none => none
@[congr] theorem callI_congr {vs vs' : List V} {F F' : Option (List V → Option V)} (h1 : vs = vs') (h2 : F = F') : callI H vs F = callI H vs' F' := by rw [h1, h2]
@[congr] theorem callJ_congr {F : List V → Option V} {δ δ' : List (Nat × Obj)} {ys ys' : Option (List V)} (h1 : δ = δ') (h2 : ys = ys') : callJ F δ ys = callJ F δ' ys' := by rw [h1, h2]
@[go_sem ↓] theorem ev_call (f : FuncId) (xs : List A) : evIO P Φ n τ H (.call f xs) = callI H (xs.map (A.get τ)) (Φ f) := by
  simp only [evIO]
  cases Φ f with
  | none => rfl
  | some F =>
    simp only [Option.bind_some, callI]
    cases freezes H (xs.map (A.get τ)) with
    | none => rfl
    | some ys =>
      simp only [Option.bind_some, callJ]
      cases F ys <;> rfl
@[go_sem ↓] theorem callI_some (vs : List V) (F : List V → Option V) : callI H vs (some F) = callJ F (froze H (vs.flatMap V.ids)) (freezes H vs) := nd rfl
@[go_sem ↓] theorem callJ_some (F : List V → Option V) (δ : List (Nat × Obj)) (ys : List V) : callJ F δ (some ys) = callK δ (F ys) := nd rfl
@[go_sem ↓] theorem callK_some (δ : List (Nat × Obj)) (r : V) : callK δ (some r) = some (r, δ) := nd rfl
@[go_sem ↓] theorem map_A_nil : ([] : List A).map (A.get τ) = [] := nd rfl
@[go_sem ↓] theorem map_A_cons (x : A) (xs : List A) : (x :: xs).map (A.get τ) = x.get τ :: xs.map (A.get τ) := nd rfl
end

def froze1 (id : Nat) (rest : List (Nat × Obj)) : Obj → List (Nat × Obj)
  | .live sz es true => if es.all V.isF = true then (id, .live sz es false) :: rest else rest
  | _ => rest
@[go_sem ↓] theorem froze_nil (H : Heap) : froze H [] = [] := nd rfl
@[go_sem ↓] theorem froze_cons (H : Heap) (id : Nat) (ids : List Nat) : froze H (id :: ids) = froze1 id (froze H ids) (H id) := by
  unfold froze
  rw [List.filterMap_cons]
  generalize H id = ob
  cases ob with
  | live sz es mu =>
    cases mu with
    | true =>
      simp only [froze1]
      by_cases h : es.all V.isF = true
      · simp only [if_pos h]
      · simp only [if_neg h]
    | false => rfl
  | _ => rfl
@[go_sem ↓] theorem froze1_mut (id : Nat) (rest : List (Nat × Obj)) (sz : Nat) (es : List V) : froze1 id rest (.live sz es true) = if es.all V.isF = true then (id, .live sz es false) :: rest else rest := nd rfl
@[go_sem ↓] theorem froze1_fix (id : Nat) (rest : List (Nat × Obj)) (sz : Nat) (es : List V) : froze1 id rest (.live sz es false) = rest := nd rfl

/-! ### Results -/
def resW (H : Heap) : List V → Option V
  | [x] => freezeR H x
  | xs => (freezesR H xs).map .tup
theorem resLF_tmps (τ : Nat → V) (H : Heap) (n : Nat) : ∀ ts : List Nat, resLF P ⟨τ, H, n⟩ (ts.map .tmp) = some (ts.map τ)
  | [] => rfl
  | t :: ts => by simp only [List.map_cons, resLF, resOneF, resLF_tmps τ H n ts]
theorem freezesR_length {H : Heap} : ∀ {xs ys : List V}, freezesR H xs = some ys → ys.length = xs.length
  | [], ys, h => by simp [freezesR] at h; subst h; rfl
  | x :: xs, ys, h => by
    simp only [freezesR] at h
    split at h
    · rename_i a b h1 h2
      cases h
      simp [freezesR_length h2]
    · cases h
theorem resF_tmps (τ : Nat → V) (H : Heap) (n : Nat) (ts : List Nat) : resF P (ts.map .tmp) ⟨τ, H, n⟩ = resW H (ts.map τ) := by
  simp only [resF, resLF_tmps, Option.bind_some]
  generalize ts.map τ = xs
  match xs with
  | [] => rfl
  | [x] =>
    simp only [resW, freezesR]
    cases freezeR H x <;> rfl
  | x :: y :: zs =>
    simp only [resW]
    cases h : freezesR H (x :: y :: zs) with
    | none => rfl
    | some ys =>
      have hl := freezesR_length h
      match ys, hl with
      | [], hl => simp at hl
      | [a], hl => simp at hl
      | a :: b :: c, _ => rfl
@[go_sem ↓] theorem resF_0 (τ : Nat → V) (H : Heap) (n : Nat) : resF P [] ⟨τ, H, n⟩ = some (.tup []) := nd rfl
@[go_sem ↓] theorem resF_1 (τ : Nat → V) (H : Heap) (n : Nat) (a : Nat) : resF P [.tmp a] ⟨τ, H, n⟩ = freezeR H (τ a) := resF_tmps τ H n [a]
@[go_sem ↓] theorem resF_2 (τ : Nat → V) (H : Heap) (n : Nat) (a b : Nat) : resF P [.tmp a, .tmp b] ⟨τ, H, n⟩ = (freezesR H [τ a, τ b]).map .tup := resF_tmps τ H n [a, b]
@[go_sem ↓] theorem resF_3 (τ : Nat → V) (H : Heap) (n : Nat) (a b c : Nat) : resF P [.tmp a, .tmp b, .tmp c] ⟨τ, H, n⟩ = (freezesR H [τ a, τ b, τ c]).map .tup := resF_tmps τ H n [a, b, c]
@[go_sem ↓] theorem resF_4 (τ : Nat → V) (H : Heap) (n : Nat) (a b c d : Nat) : resF P [.tmp a, .tmp b, .tmp c, .tmp d] ⟨τ, H, n⟩ = (freezesR H [τ a, τ b, τ c, τ d]).map .tup := resF_tmps τ H n [a, b, c, d]
@[congr] theorem freeze_congr {H : Heap} {v v' : V} (h : v = v') : freeze H v = freeze H v' := by rw [h]
@[go_sem ↓] theorem freezeR_at (H : Heap) (v : V) : freezeR H v = orO (freeze H v) (mapR H v) := nd rfl
@[congr] theorem orO_congr {x x' : Option V} {y : Option V} (h : x = x') : orO x y = orO x' y := by rw [h]
@[go_sem ↓] theorem orO_some (x : V) (y : Option V) : orO (some x) y = some x := nd rfl
@[go_sem ↓] theorem orO_none (y : Option V) : orO none y = y := nd rfl
def mapRO : Obj → Option V
  | .ext (.map ks vs) => if vs.all V.isF = true then some (.mapf ks vs) else none
  | _ => none
@[go_sem ↓] theorem mapR_mapr (H : Heap) (id : Nat) : mapR H (.mapr id) = mapRO (H id) := by
  simp only [mapR]
  generalize H id = ob
  cases ob with
  | ext e => cases e <;> rfl
  | _ => rfl
@[go_sem ↓] theorem mapRO_map (ks : List Value) (vs : List V) : mapRO (.ext (.map ks vs)) = if vs.all V.isF = true then some (.mapf ks vs) else none := nd rfl

/-- How a body may end. -/
def endsI (P : Program) (rs : List ResultVar) (r : V) : Exit → SF → Prop
  | .normal, s => resF P rs s = some r
  | .ret, s => resF P rs s = some r
  | _, _ => False
@[go_sem ↓] theorem endsI_normal (rs : List ResultVar) (r : V) (s : SF) : endsI P rs r .normal s = (resF P rs s = some r) := nd rfl
@[go_sem ↓] theorem endsI_ret (rs : List ResultVar) (r : V) (s : SF) : endsI P rs r .ret s = (resF P rs s = some r) := nd rfl

/-- What is to be known of a function: how many slots, what it returns, its short form. -/
def factsI (P : Program) (f : FuncId) : Option (Nat × List ResultVar × IC) := if enters P f then match P.funcs[f]? with
    | some fn => match fn.body with
      | some c => if okCode fn.ntmps c = true then (cCode P c).map fun ic => (fn.ntmps, fn.results.toList, ic) else none
      | none => none
    | none => none
  else none

/-- A FUNCTION's CONTRACT by the walk over its short form. -/
theorem contractL (hg : Good P Φ) (K : List Nat) {f : FuncId} {nt : Nat} {rs : List ResultVar} {ic : IC} {F : List V → Option V} (hf : factsI P f = some (nt, rs, ic))
    (hp : ∀ xs r, F xs = some r → xs.length ≤ nt)
    (h : ∀ C xs r, F xs = some r → walkI P Φ C nt K ic ⟨pars xs, fun _ => .unborn, 0⟩ (contI P Φ C nt K (endsI P rs r) [])) : Contract P f F := by
  unfold factsI at hf
  split at hf
  · split at hf
    · rename_i fn hfn
      split at hf
      · rename_i c hc
        split at hf
        · rename_i hok
          simp only [Option.map_eq_some_iff, Prod.mk.injEq] at hf
          obtain ⟨ic', hic, rfl, rfl, rfl⟩ := hf
          refine contractI hg K hfn hc hok hic hp fun C xs r hF => ?_
          have hq : endsI P fn.results.toList r = fun e s' => (e = .normal ∨ e = .ret) ∧ resF P fn.results.toList s' = some r := by
            funext e s
            cases e <;> simp [endsI]
          rw [← hq]
          exact h C xs r hF
        · cases hf
      · cases hf
    · cases hf
  · cases hf
theorem facts_enters {f : FuncId} {x : Nat × List ResultVar × IC} (hf : factsI P f = some x) : enters P f = true := by
  unfold factsI at hf
  split at hf
  · assumption
  · cases hf

/-- One contract more. -/
def add (Φ : Specs) (f : FuncId) (F : List V → Option V) : Specs := fun g => if g = f then some F else Φ g
@[go_sem ↓] theorem add_at (Φ : Specs) (f : FuncId) (F : List V → Option V) (g : FuncId) : add Φ f F g = if g = f then some F else Φ g := nd rfl
theorem Good.add (hg : Good P Φ) {f : FuncId} {F : List V → Option V} (he : enters P f = true) (hc : Contract P f F) : Good P (add Φ f F) :=
  ⟨fun g G hG => by
    unfold Idl.add at hG
    split at hG
    · rename_i e
      cases hG
      subst e
      exact ⟨g, fun args w => enters_run he args w, hc⟩
    · exact hg.met g G hG, hg.orders⟩

/-! ### Values -/
attribute [go_sem ↓] true_implies false_implies
attribute [go_sem] or_true true_or true_and and_true and_self implies_true Bool.false_eq_true Option.some.injEq V.sc.injEq Value.int.injEq Value.bool.injEq Bool.not_false Bool.not_true V.solid V.cellOk V.cells Value.oneCell' List.all_cons List.all_nil Bool.and_true Bool.true_and if_true
  Option.map_some Option.bind_some V.write freezes freezesR freeze freezeC freezeL V.ids V.idsC List.flatMap_cons List.flatMap_nil List.map_cons List.map_nil
  List.getElem?_cons_zero List.getElem?_cons_succ List.append_nil List.nil_append List.length_cons List.length_nil List.cons_append

end Go.Idl
