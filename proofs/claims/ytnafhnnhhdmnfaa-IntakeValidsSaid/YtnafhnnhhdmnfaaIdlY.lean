/-
  More rules: drawn regions, strings, elements, building.
-/
import Derived.Test.YtnafhnnhhdmnfaaIdlX
namespace Go.Idl
set_option linter.all false
universe u

variable {P : Program} {Φ : Specs} {C : Ctx} {N : Nat} {K : List Nat}

/-- An operation that writes to no slot of its own accord. -/
def pu (op : Op) (ty : Nat) : Oper := { dst := none, op := op, type := ty, pos := "", after := #[], guard := none }

/-! ### A region whose order is drawn -/
def apartI (bef : List Nat) (acc : List Rec) : Prop := apartAll bef acc.reverse = true
def stepD (P : Program) (Φ : Specs) (C : Ctx) (bef : List Nat) (n0 : Nat) (Q : SF → Prop) (rest : List IOp) (i : Nat) (acc : List Rec) (d : Option Nat) (τ : Nat → V) (H : Heap) (n : Nat) (nd : List Nat) : Option (V × List (Nat × Obj)) → Prop
  | some (v, δ) => drwI P Φ C bef n0 Q rest (i + 1) (⟨.any, δ.map fun p => (p.1, .dead), nd⟩ :: acc) ⟨putF τ d v, putH H δ, n⟩
  | none => False
def fullI (bef : List Nat) (i : Nat) : Prop := fullFrom bef i = true
def stepU (P : Program) (Φ : Specs) (C : Ctx) (bef : List Nat) (n0 : Nat) (Q : SF → Prop) (rest : List IOp) (i : Nat) (acc : List Rec) (d : Option Nat) (io : Ins) (τ : Nat → V) (H : Heap) (n : Nat) (nd : List Nat) : Option (V × List (Nat × Obj)) → Prop
  | some p => stepD P Φ C bef n0 Q rest i acc d τ H n nd (some p)
  | none => fullI bef i ∧ apartI bef acc ∧ inlI P C io ⟨τ, H, n0 + i⟩ fun v s' => seqI P Φ C Q rest ⟨putF τ d v, s'.H, s'.n⟩
def guardD (P : Program) (Φ : Specs) (C : Ctx) (bef : List Nat) (n0 : Nat) (Q : SF → Prop) (rest : List IOp) (i : Nat) (acc : List Rec) (d : Option Nat) (io : Ins) (t : Nat) (want : Bool) (τ : Nat → V) (H : Heap) (n : Nat) : V → Prop
  | .sc (.bool b) => (b = want → stepD P Φ C bef n0 Q rest i acc d (updT τ t (.sc (.bool want))) H n (needI (n0 + i) (updT τ t (.sc (.bool want))) io) (evIO P Φ (n0 + i) (updT τ t (.sc (.bool want))) H io)) ∧ (b = !want → drwI P Φ C bef n0 Q rest (i + 1) (⟨.any, [], []⟩ :: acc) ⟨putF (updT τ t (.sc (.bool (!want)))) d (.sc undef), H, n⟩)
  | .sc (.tuple x) => drwI P Φ C bef n0 Q rest (i + 1) (⟨.any, [], []⟩ :: acc) ⟨putF (updT τ t (.sc (.tuple x))) d (.sc undef), H, n⟩
  | _ => False

section
variable {bef : List Nat} {n0 : Nat} {Q : SF → Prop} {rest : List IOp} {i : Nat} {acc : List Rec} {τ : Nat → V} {H : Heap} {n : Nat}
@[congr] theorem stepD_congr {d : Option Nat} {nd nd' : List Nat} {e e' : Option (V × List (Nat × Obj))} (h1 : nd = nd') (h : e = e') :
    stepD P Φ C bef n0 Q rest i acc d τ H n nd e = stepD P Φ C bef n0 Q rest i acc d τ H n nd' e' := by rw [h, h1]
@[congr] theorem stepU_congr {d : Option Nat} {io : Ins} {nd nd' : List Nat} {e e' : Option (V × List (Nat × Obj))} (h1 : nd = nd') (h : e = e') :
    stepU P Φ C bef n0 Q rest i acc d io τ H n nd e = stepU P Φ C bef n0 Q rest i acc d io τ H n nd' e' := by rw [h, h1]
@[congr] theorem guardD_congr {d : Option Nat} {io : Ins} {t : Nat} {want : Bool} {e e' : V} (h : e = e') :
    guardD P Φ C bef n0 Q rest i acc d io t want τ H n e = guardD P Φ C bef n0 Q rest i acc d io t want τ H n e' := by rw [h]

@[go_sem ↓] theorem drwI_nil : drwI P Φ C bef n0 Q [] i acc ⟨τ, H, n⟩ = (apartI bef acc ∧ Q ⟨τ, H, n0 + i⟩) := nd rfl
@[go_sem ↓] theorem drwI_un (d : Option Nat) (io : Ins) :
    drwI P Φ C bef n0 Q (⟨d, none, io⟩ :: rest) i acc ⟨τ, H, n⟩ = stepU P Φ C bef n0 Q rest i acc d io τ H n (needI (n0 + i) τ io) (evIO P Φ (n0 + i) τ H io) := by
  simp only [drwI, wantI, true_implies, reduceCtorEq, false_implies, and_true]
  generalize evIO P Φ (n0 + i) τ H io = e
  cases e <;> simp [stepU, stepD, fullI, apartI]
@[go_sem ↓] theorem drwI_gd (d : Option Nat) (t : Nat) (want : Bool) (io : Ins) :
    drwI P Φ C bef n0 Q (⟨d, some (some t, want), io⟩ :: rest) i acc ⟨τ, H, n⟩ = guardD P Φ C bef n0 Q rest i acc d io t want τ H n (τ t) := by
  rw [drwI]
  simp only [wantI]
  have hnd : ∀ {v : V}, τ t = v → updT τ t v = τ := fun h => updT_self h
  generalize hv : τ t = v
  cases v with
  | sc u =>
    cases u with
    | bool b =>
      simp only [guardD]
      cases b <;> cases want <;> simp [hnd hv] <;> (generalize evIO P Φ (n0 + i) τ H io = e; cases e <;> simp [stepD])
    | tuple => simp [guardD, hnd hv]
    | _ => simp [guardD]
  | _ => simp [guardD]

@[go_sem ↓] theorem stepU_some (d : Option Nat) (io : Ins) (nd : List Nat) (p : V × List (Nat × Obj)) : stepU P Φ C bef n0 Q rest i acc d io τ H n nd (some p) = stepD P Φ C bef n0 Q rest i acc d τ H n nd (some p) := Idl.nd rfl
@[go_sem ↓] theorem stepU_call (d : Nat) (f : FuncId) (xs : List A) (nd : List Nat) : stepU P Φ C bef n0 Q rest i acc (some d) (.call f xs) τ H n nd none = (fullI bef i ∧ apartI bef acc ∧ CallT P C f (xs.map (A.get τ)) ⟨τ, H, n0 + i⟩ fun v s' => seqI P Φ C Q rest ⟨updT τ d v, s'.H, s'.n⟩) := Idl.nd rfl
@[go_sem ↓] theorem stepD_none (d : Option Nat) (nd : List Nat) : stepD P Φ C bef n0 Q rest i acc d τ H n nd none = False := Idl.nd rfl
@[go_sem ↓] theorem stepD_0 (d : Nat) (nd : List Nat) (v : V) : stepD P Φ C bef n0 Q rest i acc (some d) τ H n nd (some (v, [])) = drwI P Φ C bef n0 Q rest (i + 1) (⟨.any, [], nd⟩ :: acc) ⟨updT τ d v, H, n⟩ := Idl.nd rfl
@[go_sem ↓] theorem stepD_1 (d : Nat) (nd : List Nat) (v : V) (j : Nat) (x : Obj) : stepD P Φ C bef n0 Q rest i acc (some d) τ H n nd (some (v, [(j, x)])) = drwI P Φ C bef n0 Q rest (i + 1) (⟨.any, [(j, .dead)], nd⟩ :: acc) ⟨updT τ d v, updH H j x, n⟩ := Idl.nd rfl
@[go_sem ↓] theorem stepD_2 (d : Nat) (nd : List Nat) (v : V) (j k : Nat) (x y : Obj) : stepD P Φ C bef n0 Q rest i acc (some d) τ H n nd (some (v, [(j, x), (k, y)])) = drwI P Φ C bef n0 Q rest (i + 1) (⟨.any, [(j, .dead), (k, .dead)], nd⟩ :: acc) ⟨updT τ d v, updH (updH H j x) k y, n⟩ := Idl.nd rfl
@[go_sem ↓] theorem stepD_n0 (nd : List Nat) (v : V) : stepD P Φ C bef n0 Q rest i acc none τ H n nd (some (v, [])) = drwI P Φ C bef n0 Q rest (i + 1) (⟨.any, [], nd⟩ :: acc) ⟨τ, H, n⟩ := Idl.nd rfl
@[go_sem ↓] theorem stepD_n1 (nd : List Nat) (v : V) (j : Nat) (x : Obj) : stepD P Φ C bef n0 Q rest i acc none τ H n nd (some (v, [(j, x)])) = drwI P Φ C bef n0 Q rest (i + 1) (⟨.any, [(j, .dead)], nd⟩ :: acc) ⟨τ, updH H j x, n⟩ := Idl.nd rfl
@[go_sem ↓] theorem guardD_tt (d : Nat) (io : Ins) (t : Nat) : guardD P Φ C bef n0 Q rest i acc (some d) io t true τ H n (.sc (.bool true)) = stepD P Φ C bef n0 Q rest i acc (some d) (updT τ t (.sc (.bool true))) H n (needI (n0 + i) (updT τ t (.sc (.bool true))) io) (evIO P Φ (n0 + i) (updT τ t (.sc (.bool true))) H io) := by simp [guardD]
@[go_sem ↓] theorem guardD_ff (d : Nat) (io : Ins) (t : Nat) : guardD P Φ C bef n0 Q rest i acc (some d) io t false τ H n (.sc (.bool false)) = stepD P Φ C bef n0 Q rest i acc (some d) (updT τ t (.sc (.bool false))) H n (needI (n0 + i) (updT τ t (.sc (.bool false))) io) (evIO P Φ (n0 + i) (updT τ t (.sc (.bool false))) H io) := by simp [guardD]
@[go_sem ↓] theorem guardD_tf (d : Nat) (io : Ins) (t : Nat) : guardD P Φ C bef n0 Q rest i acc (some d) io t true τ H n (.sc (.bool false)) = drwI P Φ C bef n0 Q rest (i + 1) (⟨.any, [], []⟩ :: acc) ⟨updT (updT τ t (.sc (.bool false))) d (.sc undef), H, n⟩ := by simp [guardD, putF]
@[go_sem ↓] theorem guardD_ft (d : Nat) (io : Ins) (t : Nat) : guardD P Φ C bef n0 Q rest i acc (some d) io t false τ H n (.sc (.bool true)) = drwI P Φ C bef n0 Q rest (i + 1) (⟨.any, [], []⟩ :: acc) ⟨updT (updT τ t (.sc (.bool true))) d (.sc undef), H, n⟩ := by simp [guardD, putF]
def stepE (P : Program) (Φ : Specs) (C : Ctx) (bef : List Nat) (n0 : Nat) (Q : SF → Prop) (rest : List IOp) (i : Nat) (acc : List Rec) (d t : Nat) (want : Bool) (τ : Nat → V) (H : Heap) (n : Nat) (b : Bool) (nd : List Nat) (e : Option (V × List (Nat × Obj))) : Prop :=
  (b = want → stepD P Φ C bef n0 Q rest i acc (some d) (updT τ t (.sc (.bool want))) H n nd e) ∧ (b = !want → drwI P Φ C bef n0 Q rest (i + 1) (⟨.any, [], []⟩ :: acc) ⟨updT (updT τ t (.sc (.bool (!want)))) d (.sc undef), H, n⟩)
@[congr] theorem stepE_congr {d t : Nat} {want b : Bool} {nd nd' : List Nat} {e e' : Option (V × List (Nat × Obj))} (h1 : b = want → (b = (!want) → False) → nd = nd') (h : e = e') :
    stepE P Φ C bef n0 Q rest i acc d t want τ H n b nd e = stepE P Φ C bef n0 Q rest i acc d t want τ H n b nd' e' := by
  rw [h]
  unfold stepE
  refine propext (and_congr ?_ Iff.rfl)
  constructor
  · intro hh hb; rw [← h1 hb (notNot hb)]; exact hh hb
  · intro hh hb; rw [h1 hb (notNot hb)]; exact hh hb
@[go_sem] theorem guardD_bool (d : Nat) (io : Ins) (t : Nat) (want : Bool) (b : Bool) :
    guardD P Φ C bef n0 Q rest i acc (some d) io t want τ H n (.sc (.bool b)) = stepE P Φ C bef n0 Q rest i acc d t want τ H n b (needI (n0 + i) (updT τ t (.sc (.bool want))) io) (whenE b want (evIO P Φ (n0 + i) (updT τ t (.sc (.bool want))) H io)) := by
  simp only [guardD, stepE, putF, whenE]
  by_cases h : b = want
  · simp [h]
  · simp [h]
@[go_sem ↓] theorem stepE_pure (d t : Nat) (want : Bool) (b : Bool) (v : V) :
    stepE P Φ C bef n0 Q rest i acc d t want τ H n b [] (whenE b want (some (v, []))) = drwI P Φ C bef n0 Q rest (i + 1) (⟨.any, [], []⟩ :: acc) ⟨updT (updT τ t (.sc (.bool b))) d (whenV b want v), H, n⟩ := by
  simp only [stepE, whenE, whenV]
  cases b <;> cases want <;> simp [stepD, putF, putH]
@[go_sem ↓] theorem stepE_nd (d t : Nat) (want : Bool) (b : Bool) (v : V) (x : Nat) (nd : List Nat) (δ : List (Nat × Obj)) :
    stepE P Φ C bef n0 Q rest i acc d t want τ H n b (x :: nd) (whenE b want (some (v, δ))) = ((b = want → stepD P Φ C bef n0 Q rest i acc (some d) (updT τ t (.sc (.bool want))) H n (x :: nd) (some (v, δ))) ∧ (b = !want → drwI P Φ C bef n0 Q rest (i + 1) (⟨.any, [], []⟩ :: acc) ⟨updT (updT τ t (.sc (.bool (!want)))) d (.sc undef), H, n⟩)) := by
  simp only [stepE, whenE]
  cases b <;> cases want <;> simp
@[go_sem ↓] theorem stepE_1 (d t : Nat) (want : Bool) (b : Bool) (v : V) (j : Nat) (x : Obj) (δ : List (Nat × Obj)) :
    stepE P Φ C bef n0 Q rest i acc d t want τ H n b [] (whenE b want (some (v, (j, x) :: δ))) = ((b = want → stepD P Φ C bef n0 Q rest i acc (some d) (updT τ t (.sc (.bool want))) H n [] (some (v, (j, x) :: δ))) ∧ (b = !want → drwI P Φ C bef n0 Q rest (i + 1) (⟨.any, [], []⟩ :: acc) ⟨updT (updT τ t (.sc (.bool (!want)))) d (.sc undef), H, n⟩)) := by
  simp only [stepE, whenE]
  cases b <;> cases want <;> simp
@[go_sem ↓] theorem guardD_undef (d : Nat) (io : Ins) (t : Nat) (want : Bool) : guardD P Φ C bef n0 Q rest i acc (some d) io t want τ H n (.sc undef) = drwI P Φ C bef n0 Q rest (i + 1) (⟨.any, [], []⟩ :: acc) ⟨updT (updT τ t (.sc undef)) d (.sc undef), H, n⟩ := nd rfl
section
variable (d t : Nat) (nd : List Nat) (e : Option (V × List (Nat × Obj)))
@[go_sem ↓] theorem stepE_tf : stepE P Φ C bef n0 Q rest i acc d t true τ H n false nd e = drwI P Φ C bef n0 Q rest (i + 1) (⟨.any, [], []⟩ :: acc) ⟨updT (updT τ t (.sc (.bool false))) d (.sc undef), H, n⟩ := by simp [stepE]
@[go_sem ↓] theorem stepE_ft : stepE P Φ C bef n0 Q rest i acc d t false τ H n true nd e = drwI P Φ C bef n0 Q rest (i + 1) (⟨.any, [], []⟩ :: acc) ⟨updT (updT τ t (.sc (.bool true))) d (.sc undef), H, n⟩ := by simp [stepE]
@[go_sem ↓] theorem stepE_tt : stepE P Φ C bef n0 Q rest i acc d t true τ H n true nd e = stepD P Φ C bef n0 Q rest i acc (some d) (updT τ t (.sc (.bool true))) H n nd e := by simp [stepE]
@[go_sem ↓] theorem stepE_ff : stepE P Φ C bef n0 Q rest i acc d t false τ H n false nd e = stepD P Φ C bef n0 Q rest i acc (some d) (updT τ t (.sc (.bool false))) H n nd e := by simp [stepE]
end
def stepE2 (P : Program) (Φ : Specs) (C : Ctx) (bef : List Nat) (n0 : Nat) (Q : SF → Prop) (rest : List IOp) (i : Nat) (acc : List Rec) (d t : Nat) (want : Bool) (τ : Nat → V) (H : Heap) (n : Nat) (b1 w1 v : Bool) (nd : List Nat) (e : Option (V × List (Nat × Obj))) : Prop :=
  (b1 = w1 → stepE P Φ C bef n0 Q rest i acc d t want τ H n v nd e) ∧ (b1 = !w1 → drwI P Φ C bef n0 Q rest (i + 1) (⟨.any, [], []⟩ :: acc) ⟨updT (updT τ t (.sc undef)) d (.sc undef), H, n⟩)
@[congr] theorem stepE2_congr {d t : Nat} {want b1 w1 v : Bool} {nd nd' : List Nat} {e e' : Option (V × List (Nat × Obj))} (h1 : b1 = w1 → v = want → (b1 = (!w1) → False) → (v = (!want) → False) → nd = nd') (h : e = e') :
    stepE2 P Φ C bef n0 Q rest i acc d t want τ H n b1 w1 v nd e = stepE2 P Φ C bef n0 Q rest i acc d t want τ H n b1 w1 v nd' e' := by
  rw [h]
  unfold stepE2 stepE
  refine propext (and_congr (forall_congr' fun hb => and_congr ?_ Iff.rfl) Iff.rfl)
  constructor
  · intro hh hv; rw [← h1 hb hv (notNot hb) (notNot hv)]; exact hh hv
  · intro hh hv; rw [h1 hb hv (notNot hb) (notNot hv)]; exact hh hv
@[go_sem] theorem guardD_when (d : Nat) (io : Ins) (t : Nat) (want : Bool) (b1 w1 v : Bool) :
    guardD P Φ C bef n0 Q rest i acc (some d) io t want τ H n (whenV b1 w1 (.sc (.bool v))) = stepE2 P Φ C bef n0 Q rest i acc d t want τ H n b1 w1 v (needI (n0 + i) (updT τ t (.sc (.bool want))) io) (whenE b1 w1 (whenE v want (evIO P Φ (n0 + i) (updT τ t (.sc (.bool want))) H io))) := by
  by_cases h : b1 = w1
  · subst h
    rw [whenV_is rfl, guardD_bool]
    simp [stepE2, whenE_same]
  · have hn : b1 = !w1 := by cases b1 <;> cases w1 <;> simp_all
    have hu : whenV b1 w1 (.sc (.bool v)) = .sc undef := by unfold whenV; rw [if_neg h]
    rw [hu, guardD_undef]
    unfold stepE2
    simp [h, hn]
@[go_sem ↓] theorem stepE2_pure (d t : Nat) (want : Bool) (b1 w1 v : Bool) (x : V) :
    stepE2 P Φ C bef n0 Q rest i acc d t want τ H n b1 w1 v [] (whenE b1 w1 (whenE v want (some (x, [])))) = drwI P Φ C bef n0 Q rest (i + 1) (⟨.any, [], []⟩ :: acc) ⟨updT (updT τ t (whenV b1 w1 (.sc (.bool v)))) d (whenV b1 w1 (whenV v want x)), H, n⟩ := by
  unfold stepE2
  cases b1 <;> cases w1 <;> simp [whenE_same, whenV_tt, whenV_ff, whenV_tf, whenV_ft, stepE_pure]
@[go_sem] theorem stepE2_any (d t : Nat) (want : Bool) (b1 w1 v : Bool) (nd : List Nat) (x : V) (δ : List (Nat × Obj)) :
    stepE2 P Φ C bef n0 Q rest i acc d t want τ H n b1 w1 v nd (whenE b1 w1 (whenE v want (some (x, δ)))) = ((b1 = w1 → stepE P Φ C bef n0 Q rest i acc d t want τ H n v nd (whenE v want (some (x, δ)))) ∧ (b1 = !w1 → drwI P Φ C bef n0 Q rest (i + 1) (⟨.any, [], []⟩ :: acc) ⟨updT (updT τ t (.sc undef)) d (.sc undef), H, n⟩)) := by
  unfold stepE2
  cases b1 <;> cases w1 <;> simp [whenE_same]
@[go_sem ↓] theorem walkI_drw (ops : List IOp) (R : Exit → SF → Prop) (fr : List Fr) : walkI P Φ C N K (.drw bef ops) ⟨τ, H, n⟩ (contI P Φ C N K R fr) = drwI P Φ C bef n (endReg P Φ C N K R fr) ops 0 [] ⟨τ, H, n⟩ := nd rfl
end

/-! ### What an operation looks at -/
section
variable (m : Nat) (τ : Nat → V)
def refI : V → List Nat
  | .ref id _ _ => [id]
  | _ => []
@[go_sem ↓] theorem need_mv (x : A) : needI m τ (.mv x) = [] := nd rfl
@[go_sem ↓] theorem need_pick (c x y : A) : needI m τ (.pick c x y) = [] := nd rfl
@[go_sem ↓] theorem need_al (z : V) (k : Nat) : needI m τ (.al z k) = [m] := nd rfl
@[go_sem ↓] theorem need_bx (x : A) : needI m τ (.bx x) = [m] := nd rfl
@[go_sem ↓] theorem need_bsl (a b : Nat) (c : Bool) (d : List V) (e : List (Nat × Nat × A)) : needI m τ (.bsl a b c d e) = m :: idsP (getP τ e) := nd rfl
@[go_sem ↓] theorem need_mks (a b : Nat) (c : V) (d e : A) : needI m τ (.mks a b c d e) = [m] := nd rfl
@[go_sem ↓] theorem need_rng (x : A) : needI m τ (.rng x) = [m] := nd rfl
@[go_sem ↓] theorem need_nxt (x : A) : needI m τ (.nxt x) = refI (x.get τ) := by
  simp only [needI]; cases x.get τ <;> rfl
@[go_sem ↓] theorem need_ld (a : Option Nat) (x : A) : needI m τ (.ld a x) = refI (x.get τ) := by
  simp only [needI]; cases x.get τ <;> rfl
@[go_sem ↓] theorem need_st (a : Nat) (x y : A) : needI m τ (.st a x y) = refI (x.get τ) := by
  simp only [needI]; cases x.get τ <;> rfl
@[go_sem ↓] theorem refI_ref (id a b : Nat) : refI (.ref id a b) = [id] := nd rfl
@[go_sem ↓] theorem refI_elem (e : V) (o : Nat) : refI (.elem e o) = [] := nd rfl
@[go_sem ↓] theorem need_ixs (a : Nat) (x i : A) : needI m τ (.ixs a x i) = (x.get τ).ids := nd rfl
@[go_sem ↓] theorem need_ixa (a b : Nat) (x i : A) : needI m τ (.ixa a b x i) = (x.get τ).ids := nd rfl
@[go_sem ↓] theorem need_sl (a : Nat) (x : A) (b c d : Option A) (o : Oper) : needI m τ (.sl a x b c d o) = (x.get τ).ids := nd rfl
@[go_sem ↓] theorem need_sls (x : A) (o : Oper) : needI m τ (.sls x o) = (x.get τ).ids := nd rfl
@[go_sem ↓] theorem need_app (a b : Nat) (x y : A) : needI m τ (.app a b x y) = m :: ((x.get τ).ids ++ (y.get τ).ids) := nd rfl
@[go_sem ↓] theorem need_call (f : FuncId) (xs : List A) : needI m τ (.call f xs) = (xs.map (A.get τ)).flatMap V.ids := by
  simp only [needI, List.flatMap_map]
@[go_sem ↓] theorem need_sh (a : Nat) (x : A) : needI m τ (.sh a x) = [] := nd rfl
@[go_sem ↓] theorem need_fld (a : Option Nat) (b : Nat) (x : A) : needI m τ (.fld a b x) = [] := nd rfl
@[go_sem ↓] theorem need_ext (x : A) (i : Nat) : needI m τ (.ext x i) = [] := nd rfl
@[go_sem ↓] theorem need_bld (z : List V) (ps : List (Nat × Nat × A)) : needI m τ (.bld z ps) = [] := nd rfl
@[go_sem ↓] theorem need_bin (op : BinOp) (b : Bool) (x y : A) (o : Oper) : needI m τ (.bin op b x y o) = [] := nd rfl
@[go_sem ↓] theorem need_un (op : UnOp) (x : A) (o : Oper) : needI m τ (.un op x o) = [] := nd rfl
@[go_sem ↓] theorem need_len (x : A) (o : Oper) : needI m τ (.len x o) = idM (x.get τ) := nd rfl
@[go_sem ↓] theorem need_lens (x : A) (o : Oper) : needI m τ (.lens x o) = idM (x.get τ) := nd rfl
@[go_sem ↓] theorem need_mmk (r : Option A) : needI m τ (.mmk r) = [m] := nd rfl
@[go_sem ↓] theorem need_mpt (ag : Bool) (ks : List CK) (x k v : A) : needI m τ (.mpt ag ks x k v) = idM (x.get τ) := nd rfl
@[go_sem ↓] theorem need_mlk (ag : Bool) (ks : List CK) (z : V) (b : Bool) (x k : A) (o : Oper) : needI m τ (.mlk ag ks z b x k o) = idM (x.get τ) := nd rfl
@[go_sem ↓] theorem need_mdl (ag : Bool) (ks : List CK) (x k : A) (o : Oper) : needI m τ (.mdl ag ks x k o) = idM (x.get τ) := nd rfl
@[go_sem ↓] theorem need_mln (x : A) (o : Oper) : needI m τ (.mln x o) = idM (x.get τ) := nd rfl
@[congr] theorem idM_congr {x x' : V} (h : x = x') : idM x = idM x' := by rw [h]
@[go_sem ↓] theorem idM_mapr (id : Nat) : idM (.mapr id) = [id] := nd rfl
@[go_sem ↓] theorem idM_sc (v : Value) : idM (.sc v) = [] := nd rfl
@[go_sem ↓] theorem idM_slice (a : Nat) (b : List V) : idM (.slice a b) = [] := nd rfl
@[go_sem ↓] theorem idM_own (a b c : Nat) : idM (.own a b c) = [] := nd rfl
@[go_sem ↓] theorem idM_mt : idM .mt = [] := nd rfl
@[go_sem ↓] theorem need_nck (x : A) (o : Oper) : needI m τ (.nck x o) = [] := nd rfl
@[go_sem ↓] theorem need_pur (o : Oper) : needI m τ (.pur o) = [] := nd rfl
end

/-! ### Elements and parts -/
section
variable (n : Nat) (τ : Nat → V) (H : Heap)
def ixsO (sz id off len : Nat) (j : Int) : Obj → Option (V × List (Nat × Obj))
  | .live s _ _ => if s = sz ∧ 0 ≤ j ∧ j < len then some (.ref id (off + j.toNat) 0, []) else none
  | _ => none
def ixsI (H : Heap) (sz : Nat) : V → V → Option (V × List (Nat × Obj))
  | .sc (.int _ j), .slice s es => if s = sz ∧ 0 ≤ j then (es[j.toNat]?).map fun e => (.elem e 0, []) else none
  | .sc (.int _ j), .own id off len => ixsO sz id off len j (H id)
  | _, _ => none
@[congr] theorem ixsI_congr {sz : Nat} {x x' y y' : V} (h1 : x = x') (h2 : y = y') : ixsI H sz x y = ixsI H sz x' y' := by rw [h1, h2]
@[go_sem ↓] theorem ev_ixs (sz : Nat) (x i : A) : evIO P Φ n τ H (.ixs sz x i) = ixsI H sz (i.get τ) (x.get τ) := by
  simp only [evIO]
  generalize i.get τ = vi
  generalize x.get τ = vx
  cases vi with
  | sc u =>
    cases u <;> cases vx <;> first | rfl | (dsimp only [ixsI]; generalize H _ = ob; cases ob <;> rfl)
  | _ => rfl
@[go_sem ↓] theorem ixsI_slice (sz s : Nat) (k : IntKind) (j : Int) (es : List V) : ixsI H sz (.sc (.int k j)) (.slice s es) = if s = sz ∧ 0 ≤ j then (es[j.toNat]?).map fun e => (V.elem e 0, []) else none := nd rfl
@[go_sem ↓] theorem ixsI_own (sz : Nat) (k : IntKind) (j : Int) (id off len : Nat) : ixsI H sz (.sc (.int k j)) (.own id off len) = ixsO sz id off len j (H id) := nd rfl
@[go_sem ↓] theorem ixsO_live (sz id off len : Nat) (j : Int) (s : Nat) (es : List V) (mu : Bool) : ixsO sz id off len j (.live s es mu) = if s = sz ∧ 0 ≤ j ∧ j < len then some (.ref id (off + j.toNat) 0, []) else none := nd rfl

def fldI (ag : Option Nat) (off : Nat) : V → Option (V × List (Nat × Obj))
  | .agg cs => (readI ag cs off).map (·, [])
  | _ => none
@[go_sem ↓] theorem ev_fld (ag : Option Nat) (off : Nat) (x : A) : evIO P Φ n τ H (.fld ag off x) = fldI ag off (x.get τ) := by
  simp only [evIO]
  generalize x.get τ = vx
  cases vx <;> rfl
@[go_sem ↓] theorem fldI_agg (ag : Option Nat) (off : Nat) (cs : List V) : fldI ag off (.agg cs) = rdC ag off cs := nd rfl
@[go_sem ↓] theorem ev_bld (z : List V) (ps : List (Nat × Nat × A)) : evIO P Φ n τ H (.bld z ps) = (fillI z (getP τ ps)).map fun cs => (.agg cs, []) := nd rfl
@[go_sem ↓] theorem getP_nil : getP τ [] = [] := nd rfl
@[go_sem ↓] theorem getP_cons (a b : Nat) (x : A) (ps : List (Nat × Nat × A)) : getP τ ((a, b, x) :: ps) = (a, b, x.get τ) :: getP τ ps := nd rfl
@[go_sem ↓] theorem fillI_nil (cells : List V) : fillI cells [] = some cells := nd rfl
@[go_sem] theorem fillI_cons (cells : List V) (off size : Nat) (v : V) (rest : List (Nat × Nat × V)) :
    fillI cells ((off, size, v) :: rest) = if v.solid = true ∧ v.cells.length = size ∧ off + size ≤ cells.length then fillI (splice cells off v.cells) rest else none := nd rfl
def bslI (n sz len : Nat) (ag : Bool) (cs : Option (List V)) : Obj → Option (V × List (Nat × Obj))
  | .unborn => cs.bind fun cs => if ag = true ∨ (sz = 1 ∧ cs.all V.cellOk = true) then some (.own n 0 len, [(n, .live sz (chunks ag sz cs len) true)]) else none
  | _ => none
@[go_sem ↓] theorem ev_bsl (sz len : Nat) (ag : Bool) (z : List V) (ps : List (Nat × Nat × A)) : evIO P Φ n τ H (.bsl sz len ag z ps) = addD (froze H (idsP (getP τ ps))) (bslI n sz len ag (fillI z (frzP H (getP τ ps))) (H n)) := by
  simp only [evIO]
  generalize H n = ob
  cases ob <;> rfl
@[go_sem] theorem addD_some (d e : List (Nat × Obj)) (v : V) : addD d (some (v, e)) = some (v, d ++ e) := nd rfl
def orV (v : V) : Option V → V
  | some x => x
  | none => v
@[go_sem ↓] theorem orV_some (v x : V) : orV v (some x) = x := nd rfl
@[go_sem ↓] theorem orV_none (v : V) : orV v none = v := nd rfl
@[congr] theorem orV_congr {v : V} {x x' : Option V} (h : x = x') : orV v x = orV v x' := by rw [h]
@[go_sem] theorem frzP_nil (H : Heap) : frzP H [] = [] := nd rfl
@[go_sem] theorem frzP_cons (H : Heap) (a b : Nat) (v : V) (ps : List (Nat × Nat × V)) : frzP H ((a, b, v) :: ps) = (a, b, orV v (freeze H v)) :: frzP H ps := by
  simp only [frzP, List.map_cons, frz1]
  cases freeze H v <;> rfl
@[go_sem] theorem idsP_nil : idsP [] = [] := nd rfl
@[go_sem] theorem idsP_cons (a b : Nat) (v : V) (ps : List (Nat × Nat × V)) : idsP ((a, b, v) :: ps) = v.ids ++ idsP ps := nd rfl
attribute [go_sem] List.nil_append List.cons_append
@[go_sem] theorem bslI_unborn (sz len : Nat) (ag : Bool) (cs : List V) : bslI n sz len ag (some cs) .unborn = if ag = true ∨ (sz = 1 ∧ cs.all V.cellOk = true) then some (.own n 0 len, [(n, .live sz (chunks ag sz cs len) true)]) else none := nd rfl

def rngI (n : Nat) : V → Obj → Option (V × List (Nat × Obj))
  | .sc (.string s), .unborn => some (.ref n 0 0, [(n, .ext (.iter s 0))])
  | _, _ => none
@[go_sem ↓] theorem ev_rng (x : A) : evIO P Φ n τ H (.rng x) = rngI n (x.get τ) (H n) := by
  simp only [evIO]
  generalize x.get τ = vx
  generalize H n = ob
  cases vx with
  | sc u => cases u <;> cases ob <;> rfl
  | _ => rfl
@[go_sem ↓] theorem rngI_str (s : ByteArray) : rngI n (.sc (.string s)) .unborn = some (.ref n 0 0, [(n, .ext (.iter s 0))]) := nd rfl
def nxtO (id : Nat) : Obj → Option (V × List (Nat × Obj))
  | .ext (.iter s pos) => if pos < s.size then some (.tup [.sc (.bool true), .sc (.int .i64 pos), .sc (.int .i32 (Utf8.decode s pos).1)], [(id, .ext (.iter s (pos + (Utf8.decode s pos).2)))])
      else some (.tup [.sc (.bool false)], [])
  | _ => none
def nxtI (H : Heap) : V → Option (V × List (Nat × Obj))
  | .ref id 0 0 => nxtO id (H id)
  | _ => none
@[congr] theorem nxtI_congr {x x' : V} (h1 : x = x') : nxtI H x = nxtI H x' := by rw [h1]
@[go_sem ↓] theorem ev_nxt (x : A) : evIO P Φ n τ H (.nxt x) = nxtI H (x.get τ) := by
  simp only [evIO]
  generalize x.get τ = vx
  cases vx with
  | ref id idx off =>
    cases idx with
    | zero =>
      cases off with
      | zero =>
        dsimp only [nxtI]
        generalize H id = ob
        cases ob with
        | ext e => cases e <;> rfl
        | _ => rfl
      | succ => rfl
    | succ => rfl
  | _ => rfl
@[go_sem ↓] theorem nxtI_ref (id : Nat) : nxtI H (.ref id 0 0) = nxtO id (H id) := nd rfl
@[go_sem] theorem nxtO_iter (id : Nat) (s : ByteArray) (pos : Nat) : nxtO id (.ext (.iter s pos)) = if pos < s.size then some (.tup [.sc (.bool true), .sc (.int .i64 pos), .sc (.int .i32 (Utf8.decode s pos).1)], [(id, .ext (.iter s (pos + (Utf8.decode s pos).2)))])
      else some (.tup [.sc (.bool false)], []) := nd rfl
end

/-! ### Pure operations -/
/-- An operation that no rule is for. -/
def evStuck (P : Program) (Φ : Specs) (n : Nat) (τ : Nat → V) (H : Heap) (io : Ins) : Option (V × List (Nat × Obj)) := evIO P Φ n τ H io
/-- On a string so; else as before. -/
def onStr {β : Type} (f : ByteArray → β) (e : β) : V → β
  | .sc (.string s) => f s
  | _ => e
@[congr] theorem onStr_congr {β : Type} {f : ByteArray → β} {e : β} {v v' : V} (h : v = v') : onStr f e v = onStr f e v' := by rw [h]
@[go_sem ↓] theorem onStr_str {β : Type} (f : ByteArray → β) (e : β) (s : ByteArray) : onStr f e (.sc (.string s)) = f s := nd rfl
def onInt {β : Type} (f : IntKind → Int → β) (e : β) : V → β
  | .sc (.int k j) => f k j
  | _ => e
@[congr] theorem onInt_congr {β : Type} {f : IntKind → Int → β} {e : β} {v v' : V} (h : v = v') : onInt f e v = onInt f e v' := by rw [h]
@[go_sem ↓] theorem onInt_int {β : Type} (f : IntKind → Int → β) (e : β) (k : IntKind) (j : Int) : onInt f e (.sc (.int k j)) = f k j := nd rfl

theorem evPure_of {ρ : Operand → V} {o : Oper} {v : Value} (h1 : o.op.operands.all (fun x => (ρ x).conc.isSome) = true) (h0 : ∀ a b, o.op ≠ .select a b)
    (h2 : runPure P (execOp (fun x => ((ρ x).conc).getD undef) o) = some (.value v)) : evPure P ρ o = some (V.ofV v, []) := by
  unfold evPure
  rw [if_pos h1]
  split
  · rename_i a b h; exact absurd h (h0 a b)
  · rw [h2]

section
variable (n : Nat) (τ : Nat → V) (H : Heap)
@[go_sem ↓] theorem ev_lens_t {t : TypeId} (h : P.underlying t = some .string) (k ty : Nat) :
    evIO P Φ n τ H (.lens (.t k) (pu (.call ⟨.builtin .len, #[.tmp k], #[t]⟩) ty)) = onStr (fun s => some (.sc (.int .i64 (s.size : Int)), [])) (evStuck P Φ n τ H (.lens (.t k) (pu (.call ⟨.builtin .len, #[.tmp k], #[t]⟩) ty))) (τ k) := by
  generalize hv : τ k = v
  cases v with
  | sc u =>
    cases u with
    | string s =>
      simp only [onStr, evIO, A.get, hv]
      refine evPure_of (v := .int .i64 (s.size : Int)) ?_ (by simp [pu]) ?_
      · simp [pu, Op.operands, Call.operands, opd, hv, V.conc]
      · simp [pu, execOp, resolve, opd, hv, V.conc, runPure_bind, runPure_pure, runPure_underlying h, invoke, builtin, Builtin.len_, goInt]
    | _ => rfl
  | _ => rfl
@[go_sem ↓] theorem ev_lens_k {t : TypeId} (h : P.underlying t = some .string) (s : ByteArray) (ty : Nat) :
    evIO P Φ n τ H (.lens (.k (.sc (.string s))) (pu (.call ⟨.builtin .len, #[.const (.string s)], #[t]⟩) ty)) = some (.sc (.int .i64 (s.size : Int)), []) := by
  simp only [evIO, A.get]
  refine evPure_of (v := .int .i64 (s.size : Int)) ?_ (by simp [pu]) ?_
  · simp [pu, Op.operands, Call.operands, opd, V.ofV, V.conc]
  · simp [pu, execOp, resolve, opd, V.ofV, V.conc, runPure_bind, runPure_pure, runPure_underlying h, invoke, builtin, Builtin.len_, goInt]

theorem get!_eq (s : ByteArray) (i : Nat) (h : i < s.size) : s[i]? = some (s.get! i) := by
  rw [getElem?_pos s i h]
  congr 1
  show s.data[i] = _
  simp [ByteArray.get!]
  rw [getElem!_pos]

/-- The byte there, where there is one. -/
def byteAt (s : ByteArray) (j : Int) (e : Option (V × List (Nat × Obj))) : Option (V × List (Nat × Obj)) :=
  if 0 ≤ j ∧ j.toNat < s.size then some (.sc (.int .u8 ((s.get! j.toNat).toNat : Int)), []) else e
@[congr] theorem byteAt_congr {s s' : ByteArray} {j j' : Int} {e : Option (V × List (Nat × Obj))} (h1 : s = s') (h : j = j') : byteAt s j e = byteAt s' j' e := by rw [h, h1]
@[go_sem] theorem byteAt_in {s : ByteArray} {j : Int} {e : Option (V × List (Nat × Obj))} (h1 : 0 ≤ j) (h2 : j.toNat < s.size) : byteAt s j e = some (.sc (.int .u8 ((s.get! j.toNat).toNat : Int)), []) := by
  unfold byteAt; rw [if_pos ⟨h1, h2⟩]
theorem idx_lands {t : TypeId} (h : P.underlying t = some .string) {ρ : Operand → V} {x y : Operand} {ty : Nat} {s : ByteArray} {k : IntKind} {j : Int} (hx : ρ x = .sc (.string s)) (hy : ρ y = .sc (.int k j)) :
    evPure P ρ (pu (.index t x y) ty) = byteAt s j (evPure P ρ (pu (.index t x y) ty)) := by
  by_cases hj : 0 ≤ j ∧ j.toNat < s.size
  · rw [byteAt_in hj.1 hj.2]
    refine evPure_of (v := .int .u8 (s.get! j.toNat).toNat) ?_ (by simp [pu]) ?_
    · simp [pu, Op.operands, hx, hy, V.conc]
    · simp [pu, execOp, hx, hy, V.conc, runPure_bind, runPure_pure, runPure_underlying h, Instr.index, asIntOf, hj.1, get!_eq s _ hj.2]
  · unfold byteAt; rw [if_neg hj]
@[go_sem ↓] theorem ev_idx_tt {t : TypeId} (h : P.underlying t = some .string) (a b ty : Nat) :
    evIO P Φ n τ H (.pur (pu (.index t (.tmp a) (.tmp b)) ty)) = onStr (fun s => onInt (fun _ j => byteAt s j (evStuck P Φ n τ H (.pur (pu (.index t (.tmp a) (.tmp b)) ty)))) (evStuck P Φ n τ H (.pur (pu (.index t (.tmp a) (.tmp b)) ty))) (τ b)) (evStuck P Φ n τ H (.pur (pu (.index t (.tmp a) (.tmp b)) ty))) (τ a) := by
  unfold onStr
  split
  · rename_i s hs
    unfold onInt
    split
    · rename_i k j hj
      exact idx_lands h hs hj
    · rfl
  · rfl
@[go_sem ↓] theorem ev_idx_tk {t : TypeId} (h : P.underlying t = some .string) (a ty : Nat) (k : IntKind) (j : Int) :
    evIO P Φ n τ H (.pur (pu (.index t (.tmp a) (.const (.int k j))) ty)) = onStr (fun s => byteAt s j (evStuck P Φ n τ H (.pur (pu (.index t (.tmp a) (.const (.int k j))) ty)))) (evStuck P Φ n τ H (.pur (pu (.index t (.tmp a) (.const (.int k j))) ty))) (τ a) := by
  unfold onStr
  split
  · rename_i s hs
    exact idx_lands h hs rfl
  · rfl
@[go_sem ↓] theorem ev_idx_kt {t : TypeId} (h : P.underlying t = some .string) (s : ByteArray) (b ty : Nat) :
    evIO P Φ n τ H (.pur (pu (.index t (.const (.string s)) (.tmp b)) ty)) = onInt (fun _ j => byteAt s j (evStuck P Φ n τ H (.pur (pu (.index t (.const (.string s)) (.tmp b)) ty)))) (evStuck P Φ n τ H (.pur (pu (.index t (.const (.string s)) (.tmp b)) ty))) (τ b) := by
  unfold onInt
  split
  · rename_i k j hj
    exact idx_lands h rfl hj
  · rfl
/-- A number of one kind as one of another. -/
def convI (d d' : Option TypeDesc) (e : Option (V × List (Nat × Obj))) (v : V) : Option (V × List (Nat × Obj)) :=
  match d, d', v with
  | some _, some (.int k), .sc (.int _ j) => some (.sc (.int k (k.wrap j)), [])
  | _, _, _ => e
@[congr] theorem convI_congr {d d' c c' : Option TypeDesc} {e : Option (V × List (Nat × Obj))} {v v' : V} (h1 : d = d') (h2 : c = c') (h3 : v = v') : convI d c e v = convI d' c' e v' := by rw [h1, h2, h3]
@[go_sem ↓] theorem convI_int (d : TypeDesc) (k k' : IntKind) (j : Int) (e : Option (V × List (Nat × Obj))) : convI (some d) (some (.int k)) e (.sc (.int k' j)) = some (.sc (.int k (k.wrap j)), []) := nd rfl
@[go_sem ↓] theorem ev_conv_t (t t' : TypeId) (a ty : Nat) :
    evIO P Φ n τ H (.pur (pu (.convert t t' (.tmp a)) ty)) = convI (P.underlying t) (P.underlying t') (evStuck P Φ n τ H (.pur (pu (.convert t t' (.tmp a)) ty))) (τ a) := by
  unfold convI
  split
  · rename_i d k k' j h0 h hj
    simp only [evIO]
    refine evPure_of (v := .int k (k.wrap j)) ?_ (by simp [pu]) ?_
    · simp [pu, Op.operands, opd, hj, V.conc]
    · simp [pu, execOp, opd, hj, V.conc, runPure_bind, runPure_pure, runPure_underlying h, runPure_underlying h0, convert, Conv.intToInt]
  · rfl
end

/-! ### Maps -/
section
variable (n : Nat) (τ : Nat → V) (H : Heap)
def onMap (H : Heap) (f : Nat → Obj → Option (V × List (Nat × Obj))) (e : Option (V × List (Nat × Obj))) : V → Option (V × List (Nat × Obj))
  | .mapr id => f id (H id)
  | .sc _ => e
  | _ => none
def mlkI (H : Heap) (ag : Bool) (ks : List CK) (z : V) (b : Bool) (e : Option (V × List (Nat × Obj))) (kv : Option Value) : V → Option (V × List (Nat × Obj))
  | .mapr id => lookI ag ks z b kv (H id)
  | .mapf keys vs => lookI ag ks z b kv (.ext (.map keys vs))
  | _ => e
def mptI (H : Heap) (ag : Bool) (ks : List CK) (v : V) (kv : Option Value) : V → Option (V × List (Nat × Obj))
  | .mapr id => putI ag ks id v kv (H id)
  | _ => none
def mdlI (H : Heap) (ag : Bool) (ks : List CK) (e : Option (V × List (Nat × Obj))) (kv : Option Value) : V → Option (V × List (Nat × Obj))
  | .mapr id => delI ag ks id kv (H id)
  | _ => e
def mlnI (H : Heap) (e : Option (V × List (Nat × Obj))) : V → Option (V × List (Nat × Obj))
  | .mapr id => lenM (H id)
  | .mapf keys vs => lenM (.ext (.map keys vs))
  | .sc _ => e
  | _ => none
variable {ag : Bool} {ks : List CK} {z : V} {b : Bool} {e : Option (V × List (Nat × Obj))}
@[congr] theorem mlkI_congr {kv kv' : Option Value} {x x' : V} (h1 : kv = kv') (h2 : x = x') : mlkI H ag ks z b e kv x = mlkI H ag ks z b e kv' x' := by rw [h1, h2]
@[congr] theorem mptI_congr {v v' : V} {kv kv' : Option Value} {x x' : V} (h0 : v = v') (h1 : kv = kv') (h2 : x = x') : mptI H ag ks v kv x = mptI H ag ks v' kv' x' := by rw [h0, h1, h2]
@[congr] theorem mdlI_congr {kv kv' : Option Value} {x x' : V} (h1 : kv = kv') (h2 : x = x') : mdlI H ag ks e kv x = mdlI H ag ks e kv' x' := by rw [h1, h2]
@[congr] theorem mlnI_congr {x x' : V} (h2 : x = x') : mlnI H e x = mlnI H e x' := by rw [h2]
@[go_sem ↓] theorem ev_mmk (r : Option A) : evIO P Φ n τ H (.mmk r) = mmkI n (r.map (A.get τ)) (H n) := nd rfl
@[go_sem ↓] theorem mmkI_0 : mmkI n none .unborn = some (.mapr n, [(n, .ext (.map [] []))]) := nd rfl
@[go_sem ↓] theorem mmkI_1 (k : IntKind) (j : Int) : mmkI n (some (.sc (.int k j))) .unborn = some (.mapr n, [(n, .ext (.map [] []))]) := nd rfl
@[go_sem ↓] theorem ev_mlk (x k : A) (o : Oper) : evIO P Φ n τ H (.mlk ag ks z b x k o) = mlkI H ag ks z b (evPure P (opd τ) o) (kvOf ag (k.get τ)) (x.get τ) := by
  simp only [evIO]
  generalize x.get τ = vx
  cases vx <;> rfl
@[go_sem ↓] theorem ev_mpt (x k v : A) : evIO P Φ n τ H (.mpt ag ks x k v) = mptI H ag ks (v.get τ) (kvOf ag (k.get τ)) (x.get τ) := by
  simp only [evIO]
  generalize x.get τ = vx
  cases vx <;> rfl
@[go_sem ↓] theorem ev_mdl (x k : A) (o : Oper) : evIO P Φ n τ H (.mdl ag ks x k o) = mdlI H ag ks (evPure P (opd τ) o) (kvOf ag (k.get τ)) (x.get τ) := by
  simp only [evIO]
  generalize x.get τ = vx
  cases vx <;> rfl
@[go_sem ↓] theorem ev_mln (x : A) (o : Oper) : evIO P Φ n τ H (.mln x o) = mlnI H (evPure P (opd τ) o) (x.get τ) := by
  simp only [evIO]
  generalize x.get τ = vx
  cases vx <;> rfl
@[go_sem ↓] theorem mlkI_mapr (kv : Option Value) (id : Nat) : mlkI H ag ks z b e kv (.mapr id) = lookI ag ks z b kv (H id) := nd rfl
@[go_sem ↓] theorem mlkI_mapf (kv : Option Value) (keys : List Value) (vs : List V) : mlkI H ag ks z b e kv (.mapf keys vs) = lookI ag ks z b kv (.ext (.map keys vs)) := nd rfl
@[go_sem ↓] theorem mlnI_mapf (keys : List Value) (vs : List V) : mlnI H e (.mapf keys vs) = lenM (.ext (.map keys vs)) := nd rfl
@[go_sem ↓] theorem mptI_mapr (v : V) (kv : Option Value) (id : Nat) : mptI H ag ks v kv (.mapr id) = putI ag ks id v kv (H id) := nd rfl
@[go_sem ↓] theorem mdlI_mapr (kv : Option Value) (id : Nat) : mdlI H ag ks e kv (.mapr id) = delI ag ks id kv (H id) := nd rfl
@[go_sem ↓] theorem mlnI_mapr (id : Nat) : mlnI H e (.mapr id) = lenM (H id) := nd rfl
@[go_sem ↓] theorem lenM_map (keys : List Value) (vs : List V) : lenM (.ext (.map keys vs)) = some (.sc (.int .i64 (keys.length : Int)), []) := nd rfl
@[go_sem ↓] theorem lookI_map (kv : Value) (keys : List Value) (vs : List V) : lookI ag ks z b (some kv) (.ext (.map keys vs)) = lookF z b vs (idxI ag ks kv keys) := nd rfl
@[go_sem ↓] theorem putI_map (id : Nat) (v : V) (kv : Value) (keys : List Value) (vs : List V) : putI ag ks id v (some kv) (.ext (.map keys vs)) = putF' id kv v keys vs (idxI ag ks kv keys) := nd rfl
@[go_sem ↓] theorem delI_map (id : Nat) (kv : Value) (keys : List Value) (vs : List V) : delI ag ks id (some kv) (.ext (.map keys vs)) = delF id keys vs (idxI ag ks kv keys) := nd rfl
@[go_sem ↓] theorem lookV_t (v : V) (ok : Bool) : lookV true v ok = .tup [v, .sc (.bool ok)] := nd rfl
@[go_sem ↓] theorem lookV_f (v : V) (ok : Bool) : lookV false v ok = v := nd rfl
@[go_sem ↓] theorem kvOf_str (s : ByteArray) : kvOf false (.sc (.string s)) = some (.string s) := nd rfl
@[go_sem ↓] theorem kvOf_int (k : IntKind) (j : Int) : kvOf false (.sc (.int k j)) = some (.int k j) := nd rfl
@[go_sem ↓] theorem kvOf_bool (v : Bool) : kvOf false (.sc (.bool v)) = some (.bool v) := nd rfl
@[go_sem ↓] theorem kvOf_agg (cs : List V) : kvOf true (.agg cs) = (concL cs).map fun l => .agg l.toArray := nd rfl
end

end Go.Idl
