import Derived.Test.YteocedfakgdckaaDoorIdlM2
import Derived.Attr
import Derived.ProofKit
import Derived.ChangeSame
import Derived.Carry
import Derived.JoinedCond
namespace Go.Idl
set_option linter.all false
open Go.RowKit
variable [Laid]
theorem only_in {ids : List Nat} {h : Heap} {x : Nat} (hx : x ∈ ids) : only ids h x = h x := by
  unfold only
  rw [if_pos (by simpa using hx)]
theorem elems_sc (h h' : Heap) (sz : Nat) (u : Value) : (V.sc u).elems h sz = (V.sc u).elems h' sz := by
  cases u with
  | slice A n c => cases A <;> cases n <;> cases c <;> rfl
  | _ => rfl
theorem sliceI_sc (h h' : Heap) (sz : Nat) (u : Value) (lo hi mx : Option V) : evSliceI h sz (.sc u) lo hi mx = evSliceI h' sz (.sc u) lo hi mx := by
  cases u with
  | slice A n c => cases A <;> cases n <;> cases c <;> rfl
  | _ => rfl
theorem elems_only {ids : List Nat} {h : Heap} {sz : Nat} {v : V} (hv : ∀ x ∈ v.ids, x ∈ ids) : v.elems (only ids h) sz = v.elems h sz := by
  cases v with
  | own id off len => simp only [V.elems, only_in (hv id (by simp [V.ids]))]
  | sc u => exact elems_sc _ _ _ _
  | _ => rfl
theorem news_only {ids : List Nat} {h : Heap} {sz : Nat} {v : V} (hv : ∀ x ∈ v.ids, x ∈ ids) : news (only ids h) sz v = news h sz v := by
  cases v with
  | sc u => cases u <;> first | rfl | exact elems_sc _ _ _ _
  | own id off len => exact elems_only hv
  | _ => rfl
theorem freezeC_only {ids : List Nat} {h : Heap} {v : V} (hv : ∀ x ∈ v.idsC, x ∈ ids) : freezeC (only ids h) v = freezeC h v := by
  cases v with
  | own id off len => simp only [freezeC, only_in (hv id (by simp [V.idsC]))]
  | _ => rfl
theorem freezeL_only {ids : List Nat} {h : Heap} : ∀ {vs : List V}, (∀ v ∈ vs, ∀ x ∈ v.idsC, x ∈ ids) → freezeL (only ids h) vs = freezeL h vs
  | [], _ => rfl
  | v :: vs, hv => by simp only [freezeL, freezeC_only (hv v (by simp)), freezeL_only (ids := ids) (h := h) (vs := vs) (fun u hu => hv u (List.mem_cons_of_mem _ hu))]
theorem freeze_only {ids : List Nat} {h : Heap} {v : V} (hv : ∀ x ∈ v.ids, x ∈ ids) : freeze (only ids h) v = freeze h v := by
  cases v with
  | agg cs => simp only [freeze, freezeL_only (ids := ids) (h := h) (vs := cs) (fun u hu x hx => hv x (by simp only [V.ids, List.mem_flatMap]; exact ⟨u, hu, hx⟩))]
  | own id off len => exact freezeC_only (v := .own id off len) hv
  | _ => rfl
theorem freezes_only {ids : List Nat} {h : Heap} : ∀ {vs : List V}, (∀ v ∈ vs, ∀ x ∈ v.ids, x ∈ ids) → freezes (only ids h) vs = freezes h vs
  | [], _ => rfl
  | v :: vs, hv => by simp only [freezes, freeze_only (hv v (by simp)), freezes_only (ids := ids) (h := h) (vs := vs) (fun u hu => hv u (List.mem_cons_of_mem _ hu))]
theorem froze_only {ids ids' : List Nat} {h : Heap} (hv : ∀ x ∈ ids', x ∈ ids) : froze (only ids h) ids' = froze h ids' := by
  unfold froze
  induction ids' with
  | nil => rfl
  | cons x xs ih =>
    simp only [List.filterMap_cons, only_in (hv x (by simp))]
    rw [ih (fun y hy => hv y (by simp [hy]))]
theorem evSliceI_only {ids : List Nat} {h : Heap} {sz : Nat} {v : V} {lo hi mx : Option V} (hv : ∀ x ∈ v.ids, x ∈ ids) : evSliceI (only ids h) sz v lo hi mx = evSliceI h sz v lo hi mx := by
  cases v with
  | own id off len =>
    have h1 := only_in (h := h) (hv id (by simp [V.ids]))
    have h2 := froze_only (h := h) (ids := ids) (ids' := [id]) (fun x hx => hv x (by simpa [V.ids] using hx))
    simp only [evSliceI, h1, h2]
  | sc u => exact sliceI_sc _ _ _ _ _ _ _
  | _ => rfl
theorem evIO_only {P : Program} {Φ : Specs} {nid : Nat} {τ : Nat → V} {h : Heap} (io : Ins) : evIO P Φ nid τ (only (needI nid τ io) h) io = evIO P Φ nid τ h io := by
  cases io with
  | al z n => simp only [evIO, needI, only_in (List.mem_singleton.2 rfl)]
  | bx x => simp only [evIO, needI, evBox, only_in (List.mem_singleton.2 rfl)]
  | ld ag x =>
    simp only [evIO, needI]
    generalize x.get τ = vx
    cases vx <;> first | rfl | simp only [only_in (List.mem_singleton.2 rfl)]
  | st n x y =>
    simp only [evIO, needI]
    generalize x.get τ = vx
    cases vx <;> first | rfl | simp only [only_in (List.mem_singleton.2 rfl)]
  | ixs sz x i =>
    simp only [evIO, needI]
    generalize x.get τ = vx
    cases vx <;> first | rfl | simp only [V.ids, only_in (List.mem_singleton.2 rfl)]
  | bsl sz len ag z ps =>
    have e1 : ∀ l : List (Nat × Nat × V), (∀ x ∈ idsP l, x ∈ nid :: idsP (getP τ ps)) → frzP (only (nid :: idsP (getP τ ps)) h) l = frzP h l := by
      intro l hl
      unfold frzP
      refine List.map_congr_left fun p hp => ?_
      unfold frz1
      rw [freeze_only (fun x hx => hl x (List.mem_flatMap.2 ⟨p, hp, hx⟩))]
    have e2 := froze_only (h := h) (ids := nid :: idsP (getP τ ps)) (ids' := idsP (getP τ ps)) (fun x hx => List.mem_cons_of_mem _ hx)
    have e3 : only (nid :: idsP (getP τ ps)) h nid = h nid := only_in (List.mem_cons_self ..)
    simp only [evIO, needI, e2, e3, e1 (getP τ ps) (fun x hx => List.mem_cons_of_mem _ hx)]
  | mks => simp only [evIO, needI, only_in (List.mem_singleton.2 rfl)]
  | rng x =>
    simp only [evIO, needI, only_in (List.mem_singleton.2 rfl)]
  | nxt x =>
    simp only [evIO, needI]
    generalize x.get τ = vx
    cases vx with
    | ref id idx off =>
      cases idx with
      | zero =>
        cases off with
        | zero => simp only [only_in (List.mem_singleton.2 rfl)]
        | succ => rfl
      | succ => rfl
    | _ => rfl
  | sl sz x lo hi mx o =>
    simp only [evIO, needI]
    generalize x.get τ = vx
    cases vx with
    | sc u => cases u <;> first | rfl | exact sliceI_sc _ _ _ _ _ _ _
    | _ => exact evSliceI_only (fun x hx => hx)
  | app sz bytes x y =>
    simp only [evIO, needI]
    have h1 : only (nid :: ((x.get τ).ids ++ (y.get τ).ids)) h nid = h nid := only_in (by simp)
    have h2 : news (only (nid :: ((x.get τ).ids ++ (y.get τ).ids)) h) sz (y.get τ) = news h sz (y.get τ) := news_only (fun z hz => by simp [hz])
    rw [h1, h2]
    generalize hx : x.get τ = vx
    cases vx with
    | own id off len =>
      have h3 : only (nid :: ((V.own id off len).ids ++ (y.get τ).ids)) h id = h id := only_in (by simp [V.ids])
      simp only [h3]
    | sc u =>
      cases u with
      | slice A n c => cases A <;> cases n <;> cases c <;> rfl
      | _ => rfl
    | _ => rfl
  | mmk r => simp only [evIO, needI, only_in (List.mem_singleton.2 rfl)]
  | mpt ag ks x k v =>
    simp only [evIO, needI]
    generalize x.get τ = vx
    cases vx <;> first | rfl | simp only [idM, only_in (List.mem_singleton.2 rfl)]
  | mlk ag ks z b x k o =>
    simp only [evIO, needI]
    generalize x.get τ = vx
    cases vx <;> first | rfl | simp only [idM, only_in (List.mem_singleton.2 rfl)]
  | mdl ag ks x k o =>
    simp only [evIO, needI]
    generalize x.get τ = vx
    cases vx <;> first | rfl | simp only [idM, only_in (List.mem_singleton.2 rfl)]
  | mln x o =>
    simp only [evIO, needI]
    generalize x.get τ = vx
    cases vx <;> first | rfl | simp only [idM, only_in (List.mem_singleton.2 rfl)]
  | call f xs =>
    simp only [evIO, needI]
    have hin : ∀ v ∈ xs.map (A.get τ), ∀ z ∈ v.ids, z ∈ xs.flatMap fun x => (x.get τ).ids := by
      intro v hv z hz
      obtain ⟨x, hx, rfl⟩ := List.mem_map.1 hv
      exact List.mem_flatMap.2 ⟨x, hx, hz⟩
    have hin2 : ∀ v ∈ (xs.map (A.get τ)).map noRef, ∀ z ∈ v.ids, z ∈ xs.flatMap fun x => (x.get τ).ids := by
      intro v hv z hz
      obtain ⟨x, hx, rfl⟩ := List.mem_map.1 hv
      refine hin x hx z ?_
      cases x with
      | ref => simp [noRef, V.ids] at hz
      | _ => exact hz
    rw [freezes_only hin2, froze_only (fun z hz => by
      obtain ⟨v, hv, hz⟩ := List.mem_flatMap.1 hz
      exact hin v hv z hz)]
  | _ => rfl
structure IOp where
  d : Option Nat
  g : Option (Option Nat × Bool)
  io : Ins
inductive IC where
  | skip
  | reg (ops : List IOp)
  | drw (bef : List Nat) (ops : List IOp)
  | any (bef : List Nat) (ops : List IOp)
  | seq (x y : IC)
  | cond (c : A) (x y : IC)
  | block (id : Nat) (b : IC)
  | loop (b : IC)
  | scope (b : IC)
  | rfn (g : A) (ps : List Nat) (x y : IC)
  | exit (id : Nat)
  | ret
def cOper (P : Program) (ops : Array Oper) (o : Oper) : Option IOp :=
  (cOp P o).map fun io => ⟨o.dst, o.guard.map fun p => ((ops[p.1]?).bind (·.dst), p.2), io⟩
def cOps (P : Program) (ops : Array Oper) : List Oper → Option (List IOp)
  | [] => some []
  | o :: r => match cOper P ops o, cOps P ops r with
    | some x, some xs => some (x :: xs)
    | _, _ => none
def selfApp (l : List IOp) : Bool := match l.head?, l.getLast? with
  | some a, some b => match a.io, b.io with
    | .ld _ (.t x), .st _ (.t y) _ => x == y && l.any (fun o => match o.io with | .call _ _ => true | _ => false) && l.any (fun o => match o.io with | .app _ _ _ _ => true | _ => false)
    | _, _ => false
  | _, _ => false
def twins (l : List IOp) : Bool := selfApp l || match l.filterMap (fun o => match o.io with | .call f _ => some f | _ => none) with
  | [f, g] => f == g
  | _ => false
def cCode (P : Program) : Code → Option IC
  | .skip => some .skip
  | .label _ => some .skip
  | .region _ ops d => (cOps P ops ops.toList).map fun l => if d then (if twins l then .any (befs ops.toList []) l else .drw (befs ops.toList []) l) else .reg l
  | .seq x y => match cCode P x, cCode P y with
    | some x, some y => some (.seq x y)
    | _, _ => none
  | .cond c x y => match cCode P x, cCode P y with
    | some x, some y => some (.cond (A.of c) x y)
    | _, _ => none
  | .block id b => (cCode P b).map (.block id)
  | .loop b => (cCode P b).map .loop
  | .scope b => (cCode P b).map .scope
  | .rangeFunc g ps x y => match cCode P x, cCode P y with
    | some x, some y => some (.rfn (A.of g) ps.toList x y)
    | _, _ => none
  | .exit id => some (.exit id)
  | .ret => some .ret
  | _ => none
def wantI (τ : Nat → V) (g : Option (Option Nat × Bool)) : Option Bool :=
  match g with
  | none => some true
  | some (none, _) => some false
  | some (some t, want) => match τ t with
    | .sc (.bool b) => some (b == want)
    | .sc (.tuple _) => some false
    | _ => none
def inlI (P : Program) (C : Ctx) (io : Ins) (s : SF) (K : V → SF → Prop) : Prop := match io with
  | .call f xs => CallT P C f (xs.map (A.get s.τ)) s K
  | .callv x xs => inlV P C (xs.map (A.get s.τ)) s K (x.get s.τ)
  | .pur o => OpT P C o s K
  | .opx o => OpT P C o s K
  | .lens _ o => OpT P C o s K
  | .bin _ _ _ _ o => OpT P C o s K
  | _ => False
def seqI (P : Program) (Φ : Specs) (C : Ctx) (Q : SF → Prop) : List IOp → SF → Prop
  | [], s => Q s
  | o :: rest, s => match wantI s.τ o.g with
    | some b => (b = true → match evIO P Φ s.n s.τ s.H o.io with
        | some (v, δ) => seqI P Φ C Q rest ⟨putF s.τ o.d v, putH s.H δ, bump s.n δ⟩
        | none => inlI P C o.io s fun v s' => seqI P Φ C Q rest ⟨putF s.τ o.d v, s'.H, s'.n⟩) ∧
      (b = false → seqI P Φ C Q rest ⟨putF s.τ o.d (.sc undef), s.H, s.n⟩)
    | none => False
def drwI (P : Program) (Φ : Specs) (C : Ctx) (bef : List Nat) (n0 : Nat) (Q : SF → Prop) : List IOp → Nat → List Rec → SF → Prop
  | [], i, acc, s => apartAll bef acc.reverse = true ∧ Q ⟨s.τ, s.H, n0 + i⟩
  | o :: rest, i, acc, s => match wantI s.τ o.g with
    | some b => (b = true → match evIO P Φ (n0 + i) s.τ s.H o.io with
        | some (v, δ) => drwI P Φ C bef n0 Q rest (i + 1) (⟨.any, δ.map fun p => (p.1, .dead), needI (n0 + i) s.τ o.io⟩ :: acc) ⟨putF s.τ o.d v, putH s.H δ, s.n⟩
        | none => fullFrom bef i = true ∧ apartAll bef acc.reverse = true ∧ inlI P C o.io ⟨s.τ, s.H, n0 + i⟩ fun v s' => seqI P Φ C Q rest ⟨putF s.τ o.d v, s'.H, s'.n⟩) ∧
      (b = false → drwI P Φ C bef n0 Q rest (i + 1) (⟨.any, [], []⟩ :: acc) ⟨putF s.τ o.d (.sc undef), s.H, s.n⟩)
    | none => False
variable {P : Program} {Φ : Specs} {C : Ctx} {n : Nat}
theorem wantI_eq {τ : Nat → V} {ops : Array Oper} {o : Oper} : wantI τ (o.guard.map fun p => ((ops[p.1]?).bind (·.dst), p.2)) = wantV τ ops o := by
  unfold wantI wantV
  cases o.guard with
  | none => rfl
  | some p =>
    obtain ⟨j, want⟩ := p
    dsimp only [Option.map_some]
    cases (ops[j]?).bind (·.dst) with
    | none => rfl
    | some t =>
      dsimp only
      generalize τ t = v
      cases v with
      | sc u => cases u <;> rfl
      | _ => rfl
theorem ev_of_io {nid : Nat} {τ : Nat → V} {h : Heap} {o : Oper} {io : Ins} (hc : cOp P o = some io) {r : V × List (Nat × Obj)} (hr : evIO P Φ nid τ h io = some r) : ev P Φ nid (opd τ) h o = some r := by
  unfold ev
  rw [← (cOp_eq (P := P) (Φ := Φ) (nid := nid) (τ := τ) (h := h) hc).2]
  refine (cOp_eq hc).1 r ?_
  rw [evIO_only]
  exact hr
def Ins.isCall : Ins → Bool
  | .call _ _ => true
  | .callv _ _ => true
  | _ => false
theorem map_call {α : Type} {x : Option α} {g : α → Ins} {io : Ins} (h : x.map g = some io) (hg : ∀ a, (g a).isCall = false) : io.isCall = false := by
  rw [Option.map_eq_some_iff] at h; obtain ⟨a, _, rfl⟩ := h; exact hg a
theorem cOp_call {P : Program} {o : Oper} {io : Ins} (h : cOp P o = some io) (hc : io.isCall = true) : ∃ c y, o.op = .call c ∧ c.callee = .value y ∧
    ((∃ f, y = .func f ∧ io = .call f (c.args.toList.map A.of)) ∨ ((∀ f, y ≠ .func f) ∧ io = .callv (A.of y) (c.args.toList.map A.of))) := by
  unfold cOp at h
  cases ho : o.op with
  | call c =>
    rw [ho] at h
    simp only at h
    cases hcal : c.callee with
    | value y =>
      rw [hcal] at h
      cases y with
      | func f =>
        simp only at h
        split at h
        · simp only [Option.some.injEq] at h; exact ⟨c, _, rfl, hcal, .inl ⟨f, rfl, h.symm⟩⟩
        · cases h; cases hc
      | _ => simp only [Option.some.injEq] at h; exact ⟨c, _, rfl, hcal, .inr ⟨by simp, h.symm⟩⟩
    | invoke => rw [hcal] at h; cases h
    | builtin b =>
      exfalso
      rw [hcal] at h
      have : io.isCall = false := by
        cases b <;> simp only at h <;> (repeat' split at h) <;> (try cases h) <;> (try rfl)
        all_goals first
          | exact map_call h fun _ => rfl
          | (rw [Option.bind_eq_some_iff] at h
             obtain ⟨et, _, h⟩ := h
             (repeat' split at h) <;> (try cases h) <;> rfl)
      rw [this] at hc; cases hc
  | _ =>
    exfalso
    have : io.isCall = false := by
      rw [ho] at h
      simp only at h
      first
        | (cases h; rfl)
        | exact map_call h fun _ => rfl
        | ((repeat' split at h) <;> first | (cases h; done) | (cases h; rfl) | exact map_call h fun _ => rfl)
        | (rw [Option.bind_eq_some_iff] at h; obtain ⟨et, _, h⟩ := h; first | exact map_call h fun _ => rfl | ((repeat' split at h) <;> first | (cases h; done) | (cases h; rfl) | exact map_call h fun _ => rfl))
        | (split at h <;> first | (cases h; rfl) | (rw [Option.bind_eq_some_iff] at h; obtain ⟨et, _, h⟩ := h; exact map_call h fun _ => rfl))
    rw [this] at hc; cases hc
def Ins.isOp : Ins → Bool
  | .pur _ => true
  | .opx _ => true
  | .lens _ _ => true
  | .bin _ _ _ _ _ => true
  | _ => false
def Ins.oper : Ins → Option Oper
  | .pur o => some o
  | .opx o => some o
  | .lens _ o => some o
  | .bin _ _ _ _ o => some o
  | _ => none
theorem map_op {α : Type} {x : Option α} {g : α → Ins} {io : Ins} (h : x.map g = some io) (hg : ∀ a, (g a).isOp = false) : io.isOp = false := by
  rw [Option.map_eq_some_iff] at h; obtain ⟨a, _, rfl⟩ := h; exact hg a
theorem cOp_op {P : Program} {o : Oper} {io : Ins} (h : cOp P o = some io) (hc : io.isOp = true) : io.oper = some (lean o) ∧ ∀ c, o.op = .call c → (∃ b, c.callee = .builtin b) ∨ ∃ x, c.callee = .value x := by
  unfold cOp at h
  cases ho : o.op with
  | call c =>
    rw [ho] at h
    simp only at h
    cases hcal : c.callee with
    | value y =>
      refine ⟨?_, fun c' e => by cases e; exact .inr ⟨y, hcal⟩⟩
      rw [hcal] at h
      cases y with
      | func f =>
        simp only at h
        split at h
        · cases h; cases hc
        · cases h; rfl
      | _ => simp only [Option.some.injEq] at h; subst h; cases hc
    | invoke => rw [hcal] at h; cases h
    | builtin b =>
      rw [hcal] at h
      refine ⟨?_, fun c' e => by cases e; exact .inl ⟨b, hcal⟩⟩
      cases b <;> simp only at h <;> (repeat' split at h) <;> (try (cases h; first | rfl | (cases hc; done)))
      all_goals first
        | (cases h; done)
        | (rw [map_op h fun _ => rfl] at hc; cases hc; done)
        | (rw [Option.bind_eq_some_iff] at h
           obtain ⟨et, _, h⟩ := h
           (repeat' split at h) <;> first | (cases h; done) | (cases h; cases hc; done))
  | _ =>
    refine ⟨?_, fun c' e => by cases e⟩
    rw [ho] at h
    simp only at h
    first
      | (cases h; first | rfl | (cases hc; done))
      | (rw [map_op h fun _ => rfl] at hc; cases hc; done)
      | ((repeat' split at h) <;> first | (cases h; done) | (cases h; first | rfl | (cases hc; done)) | (rw [map_op h fun _ => rfl] at hc; cases hc; done))
      | (rw [Option.bind_eq_some_iff] at h; obtain ⟨et, _, h⟩ := h; first | (rw [map_op h fun _ => rfl] at hc; cases hc; done) | ((repeat' split at h) <;> first | (cases h; done) | (cases h; cases hc; done) | (rw [map_op h fun _ => rfl] at hc; cases hc; done)))
      | (split at h <;> first | (cases h; cases hc; done) | (rw [Option.bind_eq_some_iff] at h; obtain ⟨et, _, h⟩ := h; rw [map_op h fun _ => rfl] at hc; cases hc; done))
theorem inlI_sound {o : Oper} {io : Ins} (hio : cOp P o = some io) {s : SF} {K K' : V → SF → Prop} (hk : ∀ v s', K v s' → K' v s') (h : inlI P C io s K) : inlO P C (opd s.τ) o s K' := by
  have mono : ∀ vs x, inlV P C vs s K x → inlV P C vs s K' x := fun vs x hh => by
    exact inlV_mono0 hk hh
  by_cases hopx : io.isOp = true
  · obtain ⟨hl, hc⟩ := cOp_op hio hopx
    have h' : OpT P C (lean o) s K' := by
      cases io <;> simp only [Ins.isOp, Bool.false_eq_true] at hopx <;> (simp only [inlI] at h; simp only [Ins.oper, Option.some.injEq] at hl; subst hl; exact h.mono hk)
    unfold inlO
    split
    · rename_i c ho
      rcases hc c ho with ⟨b, hb⟩ | ⟨x, hb⟩
      · rw [hb]
        exact h'
      · rw [hb]
        exact .inr h'
    · exact h'
  have hcall : io.isCall = true := by
    cases io <;> first | rfl | exact absurd rfl hopx | exact h.elim
  obtain ⟨c, y, h1, h2, h3⟩ := cOp_call hio hcall
  unfold inlO
  rw [h1]
  simp only [h2]
  rcases h3 with ⟨f, rfl, rfl⟩ | ⟨_, rfl⟩
  · simp only [inlI, map_of] at h
    exact .inl (mono (c.args.toList.map (opd s.τ)) (opd s.τ (.func f)) (by simpa [inlV, fnOf, opd] using h))
  · simp only [inlI, map_of, A.get_of] at h
    exact .inl (mono _ _ h)
theorem seqI_sound {ops : Array Oper} {Q : SF → Prop} : ∀ (l : List Oper) (il : List IOp) (s : SF), cOps P ops l = some il → seqI P Φ C Q il s → wpSeq P Φ C ops Q l s
  | [], il, s, hc, h => by simp [cOps] at hc; subst hc; exact h
  | o :: l, il, s, hc, h => by
    simp only [cOps] at hc
    split at hc
    · rename_i x xs h1 h2
      cases hc
      simp only [cOper, Option.map_eq_some_iff] at h1
      obtain ⟨io, hio, rfl⟩ := h1
      simp only [seqI, wantI_eq] at h
      simp only [wpSeq]
      cases hw : wantV s.τ ops o with
      | none => rw [hw] at h; exact h
      | some b =>
        rw [hw] at h
        refine ⟨fun hb => ?_, fun hb => seqI_sound l xs _ h2 (h.2 hb)⟩
        have h3 := h.1 hb
        split at h3
        · rename_i v δ hev
          rw [ev_of_io hio hev]
          exact .inl (seqI_sound l xs _ h2 h3)
        · exact .inr (inlI_sound hio (fun v s' hh => seqI_sound l xs _ h2 hh) h3)
    · cases hc
theorem drwI_sound {ops : Array Oper} {n0 : Nat} {Q : SF → Prop} : ∀ (l : List Oper) (il : List IOp) (i : Nat) (acc : List Rec) (s : SF), cOps P ops l = some il → drwI P Φ C (befs ops.toList []) n0 Q il i acc s → wpDraw P Φ C ops n0 Q l i acc s
  | [], il, i, acc, s, hc, h => by simp [cOps] at hc; subst hc; exact h
  | o :: l, il, i, acc, s, hc, h => by
    simp only [cOps] at hc
    split at hc
    · rename_i x xs h1 h2
      cases hc
      simp only [cOper, Option.map_eq_some_iff] at h1
      obtain ⟨io, hio, rfl⟩ := h1
      simp only [drwI, wantI_eq] at h
      simp only [wpDraw]
      cases hw : wantV s.τ ops o with
      | none => rw [hw] at h; exact h
      | some b =>
        rw [hw] at h
        refine ⟨fun hb => ?_, fun hb => drwI_sound l xs _ _ _ h2 (h.2 hb)⟩
        have h3 := h.1 hb
        split at h3
        · rename_i v δ hev
          rw [ev_of_io hio hev]
          rw [(cOp_eq (P := P) (Φ := Φ) (nid := n0 + i) (τ := s.τ) (h := s.H) hio).2] at h3
          exact .inl (drwI_sound l xs _ _ _ h2 h3)
        · exact .inr ⟨h3.1, h3.2.1, inlI_sound hio (fun v s' hh => seqI_sound l xs _ h2 hh) h3.2.2⟩
    · cases hc
def TriI (P : Program) (C : Ctx) (n : Nat) (ic : IC) (s : SF) (Q : Exit → SF → Prop) : Prop := ∀ c, cCode P c = some ic → TriF P C n c s Q
theorem TriI.mono {ic : IC} {s : SF} {Q Q' : Exit → SF → Prop} (h : TriI P C n ic s Q) (hq : ∀ e s, Q e s → Q' e s) : TriI P C n ic s Q' := fun c hc => (h c hc).mono hq
def walkI (P : Program) (Φ : Specs) (C : Ctx) (n : Nat) (K : List Nat) : IC → SF → (Exit → SF → Prop) → Prop
  | .skip, s, Q => Q .normal s
  | .reg ops, s, Q => seqI P Φ C (fun s' => Q .normal ⟨prune K s'.τ, s'.H, s'.n⟩) ops s
  | .drw bef ops, s, Q => drwI P Φ C bef s.n (fun s' => Q .normal ⟨prune K s'.τ, s'.H, s'.n⟩) ops 0 [] s
  | .seq x y, s, Q => walkI P Φ C n K x s (andThenF (fun s' => walkI P Φ C n K y s' Q) Q)
  | .cond c x y, s, Q => match c.get s.τ with
    | .sc (.bool t) => (t = true → walkI P Φ C n K x s Q) ∧ (t = false → walkI P Φ C n K y s Q)
    | _ => False
  | .block id b, s, Q => walkI P Φ C n K b s (inBlockF id Q)
  | .exit id, s, Q => Q (.exit id) s
  | .ret, s, Q => Q .ret s
  | .loop b, s, Q => TriI P C n (.loop b) s Q
  | .scope b, s, Q => TriI P C n (.scope b) s Q
  | .any bef ops, s, Q => TriI P C n (.any bef ops) s Q
  | .rfn g ps x y, s, Q => TriI P C n (.rfn g ps x y) s Q
theorem walkI_sound (hg : Good P Φ) {K : List Nat} : ∀ (c : Code) (ic : IC) (s : SF) (Q : Exit → SF → Prop), cCode P c = some ic → walkI P Φ C n K ic s Q → TriF P C n c s Q
  | .skip, ic, s, Q, hc, h => by cases hc; exact walk_sound (K := K) hg .skip s Q h
  | .label l, ic, s, Q, hc, h => by cases hc; exact walk_sound (K := K) hg (.label l) s Q h
  | .exit id, ic, s, Q, hc, h => by cases hc; exact walk_sound (K := K) hg (.exit id) s Q h
  | .ret, ic, s, Q, hc, h => by cases hc; exact walk_sound (K := K) hg .ret s Q h
  | .region id ops d, ic, s, Q, hc, h => by
    have hc' := hc
    simp only [cCode, Option.map_eq_some_iff] at hc
    obtain ⟨l, hl, rfl⟩ := hc
    cases d with
    | true =>
      cases htw : twins l with
      | true =>
        simp only [htw, if_true] at h hc'
        exact h _ hc'
      | false =>
        simp only [htw, if_true, Bool.false_eq_true, if_false] at h
        exact walk_sound (K := K) hg (.region id ops true) s Q (drwI_sound _ _ _ _ _ hl h)
    | false => exact walk_sound (K := K) hg (.region id ops false) s Q (seqI_sound _ _ _ hl h)
  | .seq x y, ic, s, Q, hc, h => by
    simp only [cCode] at hc
    split at hc
    · rename_i x' y' hx hy
      cases hc
      exact .seq ((walkI_sound hg x x' s _ hx h).mono fun e s' hh => by
        cases e with
        | normal => exact walkI_sound hg y y' s' Q hy hh
        | _ => exact hh)
    · cases hc
  | .cond c x y, ic, s, Q, hc, h => by
    simp only [cCode] at hc
    split at hc
    · rename_i x' y' hx hy
      cases hc
      simp only [walkI, A.get_of] at h
      split at h
      · rename_i t ht
        refine .cond ht ?_
        cases t with
        | true => exact walkI_sound hg x x' s Q hx (h.1 rfl)
        | false => exact walkI_sound hg y y' s Q hy (h.2 rfl)
      · exact h.elim
    · cases hc
  | .block id b, ic, s, Q, hc, h => by
    simp only [cCode, Option.map_eq_some_iff] at hc
    obtain ⟨b', hb, rfl⟩ := hc
    exact .block (walkI_sound hg b b' s _ hb h)
  | .loop b, ic, s, Q, hc, h => by
    have hc' := hc
    simp only [cCode, Option.map_eq_some_iff] at hc'
    obtain ⟨b', hb, rfl⟩ := hc'
    exact h _ hc
  | .rangeFunc g ps x y, ic, s, Q, hc, h => by
    have hc' := hc
    simp only [cCode] at hc'
    split at hc'
    · cases hc'; exact h _ hc
    · cases hc'
  | .scope b, ic, s, Q, hc, h => by
    have hc' := hc
    simp only [cCode, Option.map_eq_some_iff] at hc'
    obtain ⟨b', hb, rfl⟩ := hc'
    exact h _ hc
  | .goto _, _, _, _, hc, _ => by cases hc
  | .refuse _, _, _, _, hc, _ => by cases hc
theorem TriI.loop (hg : Good P Φ) {K : List Nat} {b : IC} {s : SF} {Q : Exit → SF → Prop} (J : Nat → SF → Prop) {m : Nat} (h0 : ∃ s', LeF C s s' ∧ J m s')
    (round : ∀ m s, J m s → walkI P Φ C n K b s (andThenF (fun s' => ∃ k s'', k < m ∧ LeF C s' s'' ∧ J k s'') Q)) : TriI P C n (.loop b) s Q := by
  intro c hc
  cases c <;> simp only [cCode] at hc
  case loop b' =>
    simp only [Option.map_eq_some_iff, IC.loop.injEq] at hc
    obtain ⟨b'', hb, rfl⟩ := hc
    exact TriF.loop J h0 fun m s hJ => walkI_sound hg b' b'' s _ hb (round m s hJ)
  all_goals first
    | cases hc
    | (split at hc <;> cases hc)
    | (simp only [Option.map_eq_some_iff] at hc; obtain ⟨l, hl, he⟩ := hc; split at he <;> cases he)
    | (simp only [Option.map_eq_some_iff] at hc; obtain ⟨l, hl, he⟩ := hc; split at he <;> (try split at he) <;> cases he)
    | (simp only [Option.map_eq_some_iff] at hc; obtain ⟨l, hl, he⟩ := hc; cases he)
theorem TriI.scope0 (hg : Good P Φ) {K : List Nat} {b : IC} {s : SF} {Q : Exit → SF → Prop} (h : walkI P Φ C n K b s (noGotoF Q)) : TriI P C n (.scope b) s Q := by
  intro c hc
  cases c <;> simp only [cCode] at hc
  case scope b' =>
    simp only [Option.map_eq_some_iff, IC.scope.injEq] at hc
    obtain ⟨b'', hb, rfl⟩ := hc
    exact TriF.scope (walkI_sound hg b' b'' s _ hb h)
  all_goals first
    | cases hc
    | (split at hc <;> cases hc)
    | (simp only [Option.map_eq_some_iff] at hc; obtain ⟨l, hl, he⟩ := hc; split at he <;> cases he)
    | (simp only [Option.map_eq_some_iff] at hc; obtain ⟨l, hl, he⟩ := hc; split at he <;> (try split at he) <;> cases he)
    | (simp only [Option.map_eq_some_iff] at hc; obtain ⟨l, hl, he⟩ := hc; cases he)
theorem TriI.ofDrw (hg : Good P Φ) (K : List Nat) {bef : List Nat} {ops : List IOp} {s : SF} {Q : Exit → SF → Prop} (h : walkI P Φ C n K (.drw bef ops) s Q) : TriI P C n (.any bef ops) s Q := by
  intro c hc
  cases c <;> simp only [cCode] at hc
  case region id l d =>
    simp only [Option.map_eq_some_iff] at hc
    obtain ⟨l', hl, he⟩ := hc
    cases d with
    | true =>
      simp only [if_true] at he
      split at he
      · cases he
        exact walk_sound (K := K) hg (.region id l true) s Q (drwI_sound _ _ _ _ _ hl h)
      · cases he
    | false => simp at he
  all_goals first
    | cases hc
    | (split at hc <;> cases hc)
    | (simp only [Option.map_eq_some_iff] at hc; obtain ⟨l, hl, he⟩ := hc; cases he)
theorem contractI (hg : Good P Φ) (K : List Nat) {f : FuncId} {fn : Func} {c : Code} {ic : IC} {F : List V → Option V} (hf : P.funcs[f]? = some fn) (hb : fn.body = some c) (hok : okCode fn.ntmps c = true) (hic : cCode P c = some ic)
    (hp : ∀ xs r, F xs = some r → xs.length ≤ fn.ntmps)
    (h : ∀ C xs r, F xs = some r → walkI P Φ C fn.ntmps K ic ⟨pars xs, fun _ => .unborn, 0⟩ fun e s' => (e = .normal ∨ e = .ret) ∧ resF P fn.results.toList s' = some r) : Contract P f F := by
  intro I w args xs r hlen hrep hI hL hF
  refine calls_of_wp hf hb ((wpIn_wide (n := 0)).1 ?_)
  have hsz := hp xs r hF
  refine wpIn_mono (walkI_sound hg c ic _ _ hic (h ⟨I, w, [], hL, none⟩ xs r hF) hok [] _ w (by simp; omega) rfl (start_simF (C := ⟨I, w, [], hL, none⟩) hlen hrep hI rfl)) ?_
  rintro e a' w' ⟨_, hd, s', ⟨he, hres⟩, γ, I', hS⟩
  obtain ⟨u, I2, hrun, hr, hI2⟩ := resG_run (fn := fn) hS hres
  have hpost : ∃ v, (results fn a'.tmps).run P w' = .ok v w' ∧ ∃ u, (Ending.returned v) = .returned u ∧ Bel w.heap.size w w' ∧ Rep (fun g x => I g x ∨ (w.heap.size ≤ g ∧ g < w'.heap.size)) w' noPlaces r u :=
    ⟨u, hrun, u, rfl, hS.below, hr.mono (Pres.refl _ _) hI2 fun _ _ h => h⟩
  rcases he with rfl | rfl
  · exact ⟨hd, hpost⟩
  · exact ⟨hd, hpost⟩
end Go.Idl
namespace Go.Idl
set_option linter.all false
universe u
variable [Laid]
variable {P : Program} {Φ : Specs} {C : Ctx} {N : Nat} {K : List Nat} {oi : Option Ins}
theorem nd {α : Sort u} {a b : α} (h : a = b) : a = b := h
@[go_sem ↓] theorem get_t (τ : Nat → V) (n : Nat) : (A.t n).get τ = τ n := nd rfl
@[go_sem ↓] theorem get_k (τ : Nat → V) (v : V) : (A.k v).get τ = v := nd rfl
@[go_sem ↓] theorem updT_at (τ : Nat → V) (d : Nat) (v : V) (t : Nat) : updT τ d v t = if t = d then v else τ t := nd rfl
@[go_sem ↓] theorem pars_zero (x : V) (xs : List V) : pars (x :: xs) 0 = x := nd rfl
@[go_sem ↓] theorem pars_succ (x : V) (xs : List V) (n : Nat) : pars (x :: xs) (n + 1) = pars xs n := nd rfl
def memN : List Nat → Nat → Bool
  | [], _ => false
  | k :: ks, t => if t = k then true else memN ks t
@[go_sem ↓] theorem memN_nil (t : Nat) : memN [] t = false := nd rfl
@[go_sem ↓] theorem memN_cons (k : Nat) (ks : List Nat) (t : Nat) : memN (k :: ks) t = if t = k then true else memN ks t := nd rfl
theorem memN_eq (K : List Nat) (t : Nat) : K.contains t = memN K t := by
  induction K with
  | nil => rfl
  | cons k ks ih =>
    rw [memN_cons, ← ih, List.contains_cons]
    by_cases e : t = k
    · simp [e]
    · simp [e]
@[go_sem ↓] theorem prune_at (K : List Nat) (τ : Nat → V) (t : Nat) : prune K τ t = if memN K t = true then τ t else .any := by
  unfold prune
  rw [memN_eq]
@[go_sem ↓] theorem prune_updT (K : List Nat) (τ : Nat → V) (d : Nat) (v : V) : prune K (updT τ d v) = if memN K d = true then updT (prune K τ) d v else prune K τ := by
  rw [prune_upd, memN_eq]
attribute [go_sem ↓] prune_prune
@[go_sem ↓] theorem updH_at (H : Heap) (id : Nat) (x : Obj) (y : Nat) : updH H id x y = if y = id then x else H y := nd rfl
def stepI (P : Program) (Φ : Specs) (C : Ctx) (Q : SF → Prop) (rest : List IOp) (d : Option Nat) (io : Option Ins) (τ : Nat → V) (H : Heap) (n : Nat) : Option (V × List (Nat × Obj)) → Prop
  | some (v, δ) => seqI P Φ C Q rest ⟨putF τ d v, putH H δ, bump n δ⟩
  | none => match io with
    | some io => inlI P C io ⟨τ, H, n⟩ fun v s' => seqI P Φ C Q rest ⟨putF τ d v, s'.H, s'.n⟩
    | none => False
def guardI (P : Program) (Φ : Specs) (C : Ctx) (Q : SF → Prop) (rest : List IOp) (d : Option Nat) (io : Ins) (t : Nat) (want : Bool) (τ : Nat → V) (H : Heap) (n : Nat) : V → Prop
  | .sc (.bool b) => (b = want → seqI P Φ C Q (⟨d, none, io⟩ :: rest) ⟨updT τ t (.sc (.bool want)), H, n⟩) ∧ (b = !want → seqI P Φ C Q rest ⟨putF (updT τ t (.sc (.bool (!want)))) d (.sc undef), H, n⟩)
  | .sc (.tuple x) => seqI P Φ C Q rest ⟨putF (updT τ t (.sc (.tuple x))) d (.sc undef), H, n⟩
  | _ => False
@[congr] theorem stepI_congr {Q : SF → Prop} {rest : List IOp} {d : Option Nat} {io : Option Ins} {τ : Nat → V} {H : Heap} {n : Nat} {e e' : Option (V × List (Nat × Obj))} (h : e = e') : stepI P Φ C Q rest d io τ H n e = stepI P Φ C Q rest d io τ H n e' := by rw [h]
@[congr] theorem guardI_congr {Q : SF → Prop} {rest : List IOp} {d : Option Nat} {io : Ins} {t : Nat} {want : Bool} {τ : Nat → V} {H : Heap} {n : Nat} {e e' : V} (h : e = e') : guardI P Φ C Q rest d io t want τ H n e = guardI P Φ C Q rest d io t want τ H n e' := by rw [h]
theorem updT_self {τ : Nat → V} {t : Nat} {v : V} (h : τ t = v) : updT τ t v = τ := by
  funext x
  unfold updT
  by_cases e : x = t
  · subst e; simp [h]
  · simp [e]
@[go_sem ↓] theorem seqI_nil (Q : SF → Prop) (s : SF) : seqI P Φ C Q [] s = Q s := nd rfl
@[go_sem ↓] theorem seqI_un (Q : SF → Prop) (rest : List IOp) (d : Option Nat) (io : Ins) (τ : Nat → V) (H : Heap) (n : Nat) :
    seqI P Φ C Q (⟨d, none, io⟩ :: rest) ⟨τ, H, n⟩ = stepI P Φ C Q rest d (some io) τ H n (evIO P Φ n τ H io) := by
  simp only [seqI, wantI, true_implies, reduceCtorEq, false_implies, and_true]
  generalize evIO P Φ n τ H io = e
  cases e <;> simp [stepI]
@[go_sem ↓] theorem seqI_gd (Q : SF → Prop) (rest : List IOp) (d : Option Nat) (t : Nat) (want : Bool) (io : Ins) (τ : Nat → V) (H : Heap) (n : Nat) :
    seqI P Φ C Q (⟨d, some (some t, want), io⟩ :: rest) ⟨τ, H, n⟩ = guardI P Φ C Q rest d io t want τ H n (τ t) := by
  rw [seqI]
  simp only [wantI]
  generalize hv : τ t = v
  cases v with
  | sc u =>
    cases u with
    | bool b =>
      simp only [guardI, seqI_un]
      cases b <;> cases want <;> simp [updT_self hv] <;> (generalize evIO P Φ n τ H io = e; cases e <;> simp [stepI])
    | tuple => simp [guardI, updT_self hv]
    | _ => simp [guardI]
  | _ => simp [guardI]
@[go_sem ↓] theorem stepI_inl (Q : SF → Prop) (rest : List IOp) (d : Nat) (f : FuncId) (xs : List A) (τ : Nat → V) (H : Heap) (n : Nat) : stepI P Φ C Q rest (some d) (some (.call f xs)) τ H n none = CallT P C f (xs.map (A.get τ)) ⟨τ, H, n⟩ fun v s' => seqI P Φ C Q rest ⟨updT τ d v, s'.H, s'.n⟩ := nd rfl
@[go_sem ↓] theorem stepI_inlv (Q : SF → Prop) (rest : List IOp) (d : Nat) (x : A) (xs : List A) (τ : Nat → V) (H : Heap) (n : Nat) : stepI P Φ C Q rest (some d) (some (.callv x xs)) τ H n none = inlV P C (xs.map (A.get τ)) ⟨τ, H, n⟩ (fun v s' => seqI P Φ C Q rest ⟨updT τ d v, s'.H, s'.n⟩) (x.get τ) := nd rfl
@[go_sem ↓] theorem stepI_0 (Q : SF → Prop) (rest : List IOp) (d : Nat) (io : Option Ins) (τ : Nat → V) (H : Heap) (n : Nat) (v : V) : stepI P Φ C Q rest (some d) io τ H n (some (v, [])) = seqI P Φ C Q rest ⟨updT τ d v, H, n⟩ := nd rfl
@[go_sem ↓] theorem stepI_1 (Q : SF → Prop) (rest : List IOp) (d : Nat) (io : Option Ins) (τ : Nat → V) (H : Heap) (n : Nat) (v : V) (i : Nat) (x : Obj) : stepI P Φ C Q rest (some d) io τ H n (some (v, [(i, x)])) = seqI P Φ C Q rest ⟨updT τ d v, updH H i x, n + 1⟩ := nd rfl
@[go_sem ↓] theorem stepI_2 (Q : SF → Prop) (rest : List IOp) (d : Nat) (io : Option Ins) (τ : Nat → V) (H : Heap) (n : Nat) (v : V) (i j : Nat) (x y : Obj) : stepI P Φ C Q rest (some d) io τ H n (some (v, [(i, x), (j, y)])) = seqI P Φ C Q rest ⟨updT τ d v, updH (updH H i x) j y, n + 1⟩ := nd rfl
@[go_sem ↓] theorem stepI_n1 (Q : SF → Prop) (rest : List IOp) (io : Option Ins) (τ : Nat → V) (H : Heap) (n : Nat) (v : V) (i : Nat) (x : Obj) : stepI P Φ C Q rest none io τ H n (some (v, [(i, x)])) = seqI P Φ C Q rest ⟨τ, updH H i x, n + 1⟩ := nd rfl
def whenV (b want : Bool) (v : V) : V := if b = want then v else .sc undef
def whenE (b want : Bool) (e : Option (V × List (Nat × Obj))) : Option (V × List (Nat × Obj)) := if b = want then e else none
def selV (b : Bool) (x y : V) : V := if b = true then x else y
theorem notNot {b want : Bool} (h : b = want) : b = (!want) → False := by cases b <;> cases want <;> simp_all
@[congr] theorem whenE_congr {b want : Bool} {e e' : Option (V × List (Nat × Obj))} (h : b = want → (b = (!want) → False) → e = e') : whenE b want e = whenE b want e' := by
  unfold whenE; split
  · rename_i e; rw [h e (notNot e)]
  · rfl
@[congr] theorem selV_congr {b : Bool} {x x' y y' : V} (h1 : b = true → (b = (!true) → False) → x = x') (h2 : b = false → (b = (!false) → False) → y = y') : selV b x y = selV b x' y' := by
  unfold selV; split
  · rename_i e; rw [h1 e (notNot e)]
  · rename_i e; rw [h2 (by simpa using e) (notNot (by simpa using e))]
@[go_sem ↓] theorem whenV_pre {b want : Bool} {v : V} (h : b = (!want) → False) : whenV b want v = v := by
  unfold whenV
  rw [if_pos]
  cases b <;> cases want <;> simp_all
@[go_sem ↓] theorem whenV_tt (v : V) : whenV true true v = v := nd rfl
@[go_sem ↓] theorem whenV_ff (v : V) : whenV false false v = v := nd rfl
@[go_sem ↓] theorem whenV_tf (v : V) : whenV true false v = .sc undef := nd rfl
@[go_sem ↓] theorem whenV_ft (v : V) : whenV false true v = .sc undef := nd rfl
theorem whenV_is {b want : Bool} {v : V} (h : b = want) : whenV b want v = v := by unfold whenV; rw [if_pos h]
theorem whenE_same (b : Bool) (e : Option (V × List (Nat × Obj))) : whenE b b e = e := by unfold whenE; rw [if_pos rfl]
@[go_sem ↓] theorem selV_t (x y : V) : selV true x y = x := nd rfl
@[go_sem ↓] theorem selV_f (x y : V) : selV false x y = y := nd rfl
@[go_sem] theorem selV_or (b v : Bool) : selV b (.sc (.bool true)) (.sc (.bool v)) = .sc (.bool (b || v)) := by cases b <;> rfl
@[go_sem] theorem selV_and (b v : Bool) : selV b (.sc (.bool v)) (.sc (.bool false)) = .sc (.bool (b && v)) := by cases b <;> rfl
def stepC (P : Program) (Φ : Specs) (C : Ctx) (Q : SF → Prop) (rest : List IOp) (oi : Option Ins) (d t : Nat) (want : Bool) (τ : Nat → V) (H : Heap) (n : Nat) (b : Bool) (e : Option (V × List (Nat × Obj))) : Prop :=
  (b = want → stepI P Φ C Q rest (some d) oi (updT τ t (.sc (.bool want))) H n e) ∧ (b = !want → seqI P Φ C Q rest ⟨updT (updT τ t (.sc (.bool (!want)))) d (.sc undef), H, n⟩)
@[congr] theorem stepC_congr {Q : SF → Prop} {rest : List IOp} {d t : Nat} {want : Bool} {τ : Nat → V} {H : Heap} {n : Nat} {b : Bool} {e e' : Option (V × List (Nat × Obj))} (h : e = e') : stepC P Φ C Q rest oi d t want τ H n b e = stepC P Φ C Q rest oi d t want τ H n b e' := by rw [h]
@[go_sem] theorem guardI_bool (Q : SF → Prop) (rest : List IOp) (d : Nat) (io : Ins) (t : Nat) (want : Bool) (τ : Nat → V) (H : Heap) (n : Nat) (b : Bool) :
    guardI P Φ C Q rest (some d) io t want τ H n (.sc (.bool b)) = stepC P Φ C Q rest (some io) d t want τ H n b (whenE b want (evIO P Φ n (updT τ t (.sc (.bool want))) H io)) := by
  simp only [guardI, stepC, seqI_un, putF, whenE]
  by_cases h : b = want
  · simp [h]
  · simp [h]
@[go_sem ↓] theorem stepC_pure (Q : SF → Prop) (rest : List IOp) (d t : Nat) (want : Bool) (τ : Nat → V) (H : Heap) (n : Nat) (b : Bool) (v : V) :
    stepC P Φ C Q rest oi d t want τ H n b (whenE b want (some (v, []))) = seqI P Φ C Q rest ⟨updT (updT τ t (.sc (.bool b))) d (whenV b want v), H, n⟩ := by
  simp only [stepC, whenE, whenV]
  cases b <;> cases want <;> simp [stepI, putF, putH, bump]
@[go_sem ↓] theorem guardI_undef (Q : SF → Prop) (rest : List IOp) (d : Nat) (io : Ins) (t : Nat) (want : Bool) (τ : Nat → V) (H : Heap) (n : Nat) : guardI P Φ C Q rest (some d) io t want τ H n (.sc undef) = seqI P Φ C Q rest ⟨updT (updT τ t (.sc undef)) d (.sc undef), H, n⟩ := nd rfl
section
variable (Q : SF → Prop) (rest : List IOp) (d t : Nat) (τ : Nat → V) (H : Heap) (n : Nat) (e : Option (V × List (Nat × Obj)))
@[go_sem ↓] theorem stepC_tf : stepC P Φ C Q rest oi d t true τ H n false e = seqI P Φ C Q rest ⟨updT (updT τ t (.sc (.bool false))) d (.sc undef), H, n⟩ := by simp [stepC]
@[go_sem ↓] theorem stepC_ft : stepC P Φ C Q rest oi d t false τ H n true e = seqI P Φ C Q rest ⟨updT (updT τ t (.sc (.bool true))) d (.sc undef), H, n⟩ := by simp [stepC]
@[go_sem ↓] theorem stepC_tt : stepC P Φ C Q rest oi d t true τ H n true e = stepI P Φ C Q rest (some d) oi (updT τ t (.sc (.bool true))) H n e := by simp [stepC]
@[go_sem ↓] theorem stepC_ff : stepC P Φ C Q rest oi d t false τ H n false e = stepI P Φ C Q rest (some d) oi (updT τ t (.sc (.bool false))) H n e := by simp [stepC]
@[go_sem ↓] theorem whenE_tt : whenE true true e = e := whenE_same _ _
@[go_sem ↓] theorem whenE_ff : whenE false false e = e := whenE_same _ _
end
def stepC2 (P : Program) (Φ : Specs) (C : Ctx) (Q : SF → Prop) (rest : List IOp) (oi : Option Ins) (d t : Nat) (want : Bool) (τ : Nat → V) (H : Heap) (n : Nat) (b1 w1 v : Bool) (e : Option (V × List (Nat × Obj))) : Prop :=
  (b1 = w1 → stepC P Φ C Q rest oi d t want τ H n v e) ∧ (b1 = !w1 → seqI P Φ C Q rest ⟨updT (updT τ t (.sc undef)) d (.sc undef), H, n⟩)
@[congr] theorem stepC2_congr {Q : SF → Prop} {rest : List IOp} {d t : Nat} {want : Bool} {τ : Nat → V} {H : Heap} {n : Nat} {b1 w1 v : Bool} {e e' : Option (V × List (Nat × Obj))} (h : e = e') :
    stepC2 P Φ C Q rest oi d t want τ H n b1 w1 v e = stepC2 P Φ C Q rest oi d t want τ H n b1 w1 v e' := by rw [h]
@[go_sem] theorem guardI_when (Q : SF → Prop) (rest : List IOp) (d : Nat) (io : Ins) (t : Nat) (want : Bool) (τ : Nat → V) (H : Heap) (n : Nat) (b1 w1 v : Bool) :
    guardI P Φ C Q rest (some d) io t want τ H n (whenV b1 w1 (.sc (.bool v))) = stepC2 P Φ C Q rest (some io) d t want τ H n b1 w1 v (whenE b1 w1 (whenE v want (evIO P Φ n (updT τ t (.sc (.bool want))) H io))) := by
  by_cases h : b1 = w1
  · subst h
    rw [whenV_is rfl, guardI_bool]
    simp [stepC2, whenE]
  · have hn : b1 = !w1 := by cases b1 <;> cases w1 <;> simp_all
    have hu : whenV b1 w1 (.sc (.bool v)) = .sc undef := by unfold whenV; rw [if_neg h]
    rw [hu, guardI_undef]
    unfold stepC2
    simp [h, hn]
@[go_sem ↓] theorem stepC2_pure (Q : SF → Prop) (rest : List IOp) (d t : Nat) (want : Bool) (τ : Nat → V) (H : Heap) (n : Nat) (b1 w1 v : Bool) (x : V) :
    stepC2 P Φ C Q rest oi d t want τ H n b1 w1 v (whenE b1 w1 (whenE v want (some (x, [])))) = seqI P Φ C Q rest ⟨updT (updT τ t (whenV b1 w1 (.sc (.bool v)))) d (whenV b1 w1 (whenV v want x)), H, n⟩ := by
  unfold stepC2
  cases b1 <;> cases w1 <;> simp [whenE_same, whenV_tt, whenV_ff, whenV_tf, whenV_ft, stepC_pure]
section
variable (Q : SF → Prop) (rest : List IOp) (d t : Nat) (want : Bool) (τ : Nat → V) (H : Heap) (n : Nat) (v : Bool) (e : Option (V × List (Nat × Obj)))
end
def condI (P : Program) (Φ : Specs) (C : Ctx) (N : Nat) (K : List Nat) (x y : IC) (s : SF) (Q : Exit → SF → Prop) : V → Prop
  | .sc (.bool t) => (t = true → walkI P Φ C N K x s Q) ∧ (t = false → walkI P Φ C N K y s Q)
  | _ => False
@[congr] theorem condI_congr {x y : IC} {s : SF} {Q : Exit → SF → Prop} {v v' : V} (h : v = v') : condI P Φ C N K x y s Q v = condI P Φ C N K x y s Q v' := by rw [h]
@[go_sem ↓] theorem walkI_skip (s : SF) (Q : Exit → SF → Prop) : walkI P Φ C N K .skip s Q = Q .normal s := nd rfl
@[go_sem ↓] theorem walkI_exit (id : Nat) (s : SF) (Q : Exit → SF → Prop) : walkI P Φ C N K (.exit id) s Q = Q (.exit id) s := nd rfl
@[go_sem ↓] theorem walkI_ret (s : SF) (Q : Exit → SF → Prop) : walkI P Φ C N K .ret s Q = Q .ret s := nd rfl
inductive Fr where
  | seq (y : IC)
  | blk (id : Nat)
def contI (P : Program) (Φ : Specs) (C : Ctx) (N : Nat) (K : List Nat) (R : Exit → SF → Prop) : List Fr → Exit → SF → Prop
  | [], e, s => R e s
  | .seq y :: fr, e, s => andThenF (fun s' => walkI P Φ C N K y s' (contI P Φ C N K R fr)) (contI P Φ C N K R fr) e s
  | .blk id :: fr, e, s => inBlockF id (contI P Φ C N K R fr) e s
def endReg (P : Program) (Φ : Specs) (C : Ctx) (N : Nat) (K : List Nat) (R : Exit → SF → Prop) (fr : List Fr) (s' : SF) : Prop := contI P Φ C N K R fr .normal ⟨prune K s'.τ, s'.H, s'.n⟩
section
variable (R : Exit → SF → Prop) (fr : List Fr)
@[go_sem ↓] theorem endReg_at (τ : Nat → V) (H : Heap) (n : Nat) : endReg P Φ C N K R fr ⟨τ, H, n⟩ = contI P Φ C N K R fr .normal ⟨prune K τ, H, n⟩ := nd rfl
@[go_sem ↓] theorem contI_nil (e : Exit) (s : SF) : contI P Φ C N K R [] e s = R e s := nd rfl
@[go_sem ↓] theorem contI_seq_normal (y : IC) (s : SF) : contI P Φ C N K R (.seq y :: fr) .normal s = walkI P Φ C N K y s (contI P Φ C N K R fr) := nd rfl
@[go_sem ↓] theorem contI_seq_exit (y : IC) (id : Nat) (s : SF) : contI P Φ C N K R (.seq y :: fr) (.exit id) s = contI P Φ C N K R fr (.exit id) s := nd rfl
@[go_sem ↓] theorem contI_seq_ret (y : IC) (s : SF) : contI P Φ C N K R (.seq y :: fr) .ret s = contI P Φ C N K R fr .ret s := nd rfl
@[go_sem ↓] theorem contI_blk_normal (id : Nat) (s : SF) : contI P Φ C N K R (.blk id :: fr) .normal s = contI P Φ C N K R fr .normal s := nd rfl
@[go_sem ↓] theorem contI_blk_ret (id : Nat) (s : SF) : contI P Φ C N K R (.blk id :: fr) .ret s = contI P Φ C N K R fr .ret s := nd rfl
@[go_sem ↓] theorem contI_blk_exit (id id' : Nat) (s : SF) : contI P Φ C N K R (.blk id :: fr) (.exit id') s = if id' = id then contI P Φ C N K R fr .normal s else contI P Φ C N K R fr (.exit id') s := nd rfl
@[go_sem ↓] theorem walkI_seq (x y : IC) (s : SF) : walkI P Φ C N K (.seq x y) s (contI P Φ C N K R fr) = walkI P Φ C N K x s (contI P Φ C N K R (.seq y :: fr)) := nd rfl
@[go_sem ↓] theorem walkI_block (id : Nat) (b : IC) (s : SF) : walkI P Φ C N K (.block id b) s (contI P Φ C N K R fr) = walkI P Φ C N K b s (contI P Φ C N K R (.blk id :: fr)) := nd rfl
@[go_sem ↓] theorem walkI_any (bef : List Nat) (ops : List IOp) (s : SF) (Q : Exit → SF → Prop) : walkI P Φ C N K (.any bef ops) s Q = TriI P C N (.any bef ops) s Q := nd rfl
@[go_sem ↓] theorem walkI_loop (b : IC) (s : SF) (Q : Exit → SF → Prop) : walkI P Φ C N K (.loop b) s Q = TriI P C N (.loop b) s Q := nd rfl
@[go_sem ↓] theorem walkI_scope (b : IC) (s : SF) (Q : Exit → SF → Prop) : walkI P Φ C N K (.scope b) s Q = TriI P C N (.scope b) s Q := nd rfl
@[go_sem ↓] theorem noGotoF_ret (Q : Exit → SF → Prop) (s : SF) : noGotoF Q .ret s = Q .ret s := nd rfl
@[go_sem ↓] theorem walkI_reg (ops : List IOp) (s : SF) : walkI P Φ C N K (.reg ops) s (contI P Φ C N K R fr) = seqI P Φ C (endReg P Φ C N K R fr) ops s := nd rfl
end
@[go_sem ↓] theorem walkI_cond (c : A) (x y : IC) (τ : Nat → V) (H : Heap) (n : Nat) (Q : Exit → SF → Prop) : walkI P Φ C N K (.cond c x y) ⟨τ, H, n⟩ Q = condI P Φ C N K x y ⟨τ, H, n⟩ Q (c.get τ) := by
  simp only [walkI]
  generalize c.get τ = v
  cases v with
  | sc u => cases u <;> rfl
  | _ => rfl
@[go_sem] theorem condI_bool (x y : IC) (s : SF) (Q : Exit → SF → Prop) (t : Bool) : condI P Φ C N K x y s Q (.sc (.bool t)) = ((t = true → walkI P Φ C N K x s Q) ∧ (t = false → walkI P Φ C N K y s Q)) := nd rfl
section
variable (n : Nat) (τ : Nat → V) (H : Heap)
def pickI (x y : V) : V → Option (V × List (Nat × Obj))
  | .sc (.bool t) => some (if t then x else y, [])
  | _ => none
def loadO (ag : Option Nat) (idx off : Nat) : Obj → Option (V × List (Nat × Obj))
  | .live _ es _ => (es[idx]?).bind fun e => (readI ag e.cells off).map (·, [])
  | _ => none
def loadI (ag : Option Nat) (H : Heap) : V → Option (V × List (Nat × Obj))
  | .ref id idx off => loadO ag idx off (H id)
  | .elem e off => (readI ag e.cells off).map (·, [])
  | _ => none
@[congr] theorem loadI_congr {ag : Option Nat} {v v' : V} (h : v = v') : loadI ag H v = loadI ag H v' := by rw [h]
def boxI (n : Nat) (x : V) : Obj → Option (V × List (Nat × Obj))
  | .unborn => if x.solid then some (.ref n 0 0, [(n, .live x.cells.length [x] true)]) else none
  | _ => none
def allocI (n : Nat) (z : V) (k : Nat) : Obj → Option (V × List (Nat × Obj))
  | .unborn => some (.ref n 0 0, [(n, .live k [z] true)])
  | _ => none
def storeO (k : Nat) (y : V) (id idx off : Nat) : Obj → Option (V × List (Nat × Obj))
  | .live sz es true => (es[idx]?).bind fun e => if y.solid = true ∧ y.cells.length = k ∧ 0 < k ∧ off + k ≤ sz then some (.any, [(id, .live sz (es.set idx (e.write off y)) true)]) else none
  | _ => none
def storeI (k : Nat) (y : V) (H : Heap) : V → Option (V × List (Nat × Obj))
  | .ref id idx off => storeO k y id idx off (H id)
  | _ => none
@[congr] theorem storeI_congr {k : Nat} {y y' v v' : V} (h1 : y = y') (h : v = v') : storeI k y H v = storeI k y' H v' := by rw [h, h1]
def extI (i : Nat) : V → Option (V × List (Nat × Obj))
  | .tup vs => (vs[i]?).map (·, [])
  | _ => none
def lenI (P : Program) (τ : Nat → V) (o : Oper) : V → Option (V × List (Nat × Obj))
  | .sc _ => evPure P (opd τ) o
  | y => (y.len).map fun (k : Nat) => (V.sc (.int .i64 (k : Int)), [])
@[go_sem ↓] theorem ev_mv (x : A) : evIO P Φ n τ H (.mv x) = some (x.get τ, []) := nd rfl
@[go_sem ↓] theorem ev_pick (c x y : A) : evIO P Φ n τ H (.pick c x y) = pickI (x.get τ) (y.get τ) (c.get τ) := by
  simp only [evIO]
  generalize c.get τ = v
  cases v with
  | sc u => cases u <;> rfl
  | _ => rfl
@[go_sem ↓] theorem pickI_bool (x y : V) (t : Bool) : pickI x y (.sc (.bool t)) = some (selV t x y, []) := nd rfl
@[go_sem ↓] theorem ev_ld (ag : Option Nat) (x : A) : evIO P Φ n τ H (.ld ag x) = loadI ag H (x.get τ) := by
  simp only [evIO]
  generalize x.get τ = v
  cases v <;> first | rfl | (dsimp only [loadI]; generalize H _ = ob; cases ob <;> rfl)
@[go_sem ↓] theorem loadI_ref (ag : Option Nat) (id idx off : Nat) : loadI ag H (.ref id idx off) = loadO ag idx off (H id) := nd rfl
def rdC (ag : Option Nat) (off : Nat) (cs : List V) : Option (V × List (Nat × Obj)) := (readI ag cs off).map (·, [])
def rdE (ag : Option Nat) (off : Nat) : Option V → Option (V × List (Nat × Obj))
  | some e => rdC ag off e.cells
  | none => none
def rdV : Option V → Option (V × List (Nat × Obj))
  | some v => some (v, [])
  | none => none
@[congr] theorem rdE_congr {ag : Option Nat} {off : Nat} {cs cs' : Option V} (h : cs = cs') : rdE ag off cs = rdE ag off cs' := by rw [h]
@[congr] theorem rdV_congr {cs cs' : Option V} (h : cs = cs') : rdV cs = rdV cs' := by rw [h]
@[go_sem ↓] theorem rdE_some (ag : Option Nat) (off : Nat) (e : V) : rdE ag off (some e) = rdC ag off e.cells := nd rfl
@[go_sem ↓] theorem rdC_none (off : Nat) (cs : List V) : rdC none off cs = rdV cs[off]? := by
  unfold rdC readI
  cases cs[off]? <;> rfl
@[go_sem ↓] theorem rdC_agg (k off : Nat) (cs : List V) : rdC (some k) off cs = if off + k ≤ cs.length then some (.agg ((cs.drop off).take k), []) else none := by
  unfold rdC readI
  simp only
  split <;> rfl
@[go_sem ↓] theorem rdV_some (v : V) : rdV (some v) = some (v, []) := nd rfl
@[go_sem ↓] theorem cells_agg (cs : List V) : (V.agg cs).cells = cs := nd rfl
@[go_sem ↓] theorem cells_sc (v : Value) : (V.sc v).cells = [.sc v] := nd rfl
@[go_sem ↓] theorem cells_slice (k : Nat) (es : List V) : (V.slice k es).cells = [.slice k es] := nd rfl
@[go_sem ↓] theorem cells_own (id off len : Nat) : (V.own id off len).cells = [.own id off len] := nd rfl
@[go_sem ↓] theorem loadI_elem (ag : Option Nat) (e : V) (off : Nat) : loadI ag H (.elem e off) = rdC ag off e.cells := nd rfl
@[go_sem ↓] theorem loadO_live (ag : Option Nat) (idx off sz : Nat) (es : List V) (mu : Bool) : loadO ag idx off (.live sz es mu) = rdE ag off es[idx]? := by
  simp only [loadO]
  generalize es[idx]? = x
  cases x <;> rfl
@[go_sem ↓] theorem ev_bx (x : A) : evIO P Φ n τ H (.bx x) = boxI n (x.get τ) (H n) := by
  simp only [evIO, evBox]
  generalize H n = ob
  cases ob <;> rfl
@[go_sem ↓] theorem boxI_unborn (x : V) : boxI n x .unborn = if x.solid = true then some (.ref n 0 0, [(n, .live x.cells.length [x] true)]) else none := nd rfl
@[go_sem ↓] theorem ev_al (z : V) (k : Nat) : evIO P Φ n τ H (.al z k) = allocI n z k (H n) := by
  simp only [evIO]
  generalize H n = ob
  cases ob <;> rfl
@[go_sem ↓] theorem allocI_unborn (z : V) (k : Nat) : allocI n z k .unborn = some (.ref n 0 0, [(n, .live k [z] true)]) := nd rfl
@[go_sem ↓] theorem ev_st (k : Nat) (x y : A) : evIO P Φ n τ H (.st k x y) = storeI k (y.get τ) H (x.get τ) := by
  simp only [evIO]
  generalize x.get τ = v
  cases v <;> first | rfl | (dsimp only [storeI]; generalize H _ = ob; cases ob <;> first | rfl | (rename_i mu; cases mu <;> rfl))
@[go_sem ↓] theorem storeI_ref (k : Nat) (y : V) (id idx off : Nat) : storeI k y H (.ref id idx off) = storeO k y id idx off (H id) := nd rfl
def stE (k : Nat) (y : V) (id idx off sz : Nat) (es : List V) : Option V → Option (V × List (Nat × Obj))
  | some e => if y.solid = true ∧ y.cells.length = k ∧ 0 < k ∧ off + k ≤ sz then some (.any, [(id, .live sz (es.set idx (e.write off y)) true)]) else none
  | none => none
@[go_sem ↓] theorem stE_some (k : Nat) (y : V) (id idx off sz : Nat) (es : List V) (e : V) :
    stE k y id idx off sz es (some e) = if y.solid = true ∧ y.cells.length = k ∧ 0 < k ∧ off + k ≤ sz then some (.any, [(id, .live sz (es.set idx (e.write off y)) true)]) else none := nd rfl
@[go_sem ↓] theorem storeO_live (k : Nat) (y : V) (id idx off sz : Nat) (es : List V) :
    storeO k y id idx off (.live sz es true) = stE k y id idx off sz es es[idx]? := by
  simp only [storeO]
  generalize es[idx]? = x
  cases x <;> rfl
@[go_sem ↓] theorem ev_sh (off : Nat) (x : A) : evIO P Φ n τ H (.sh off x) = (shift off (x.get τ)).map (·, []) := nd rfl
@[go_sem ↓] theorem shift_ref (k id idx off : Nat) : shift k (.ref id idx off) = some (.ref id idx (off + k)) := nd rfl
@[go_sem ↓] theorem shift_elem (k : Nat) (e : V) (off : Nat) : shift k (.elem e off) = some (.elem e (off + k)) := nd rfl
@[go_sem ↓] theorem ev_ext (x : A) (i : Nat) : evIO P Φ n τ H (.ext x i) = extI i (x.get τ) := by
  simp only [evIO]
  generalize x.get τ = v
  cases v <;> rfl
@[go_sem ↓] theorem extI_tup (i : Nat) (vs : List V) : extI i (.tup vs) = (vs[i]?).map (·, []) := nd rfl
@[go_sem ↓] theorem ev_bin (op : BinOp) (isB : Bool) (x y : A) (o : Oper) : evIO P Φ n τ H (.bin op isB x y o) = evBin P (opd τ) o op isB (x.get τ) (y.get τ) := nd rfl
@[go_sem ↓] theorem ev_un (op : UnOp) (x : A) (o : Oper) : evIO P Φ n τ H (.un op x o) = evUn P (opd τ) o op (x.get τ) := nd rfl
@[congr] theorem evBin_congr {ρ : Operand → V} {o : Oper} {op : BinOp} {isB : Bool} {x x' y y' : V} (h1 : x = x') (h2 : y = y') : evBin P ρ o op isB x y = evBin P ρ o op isB x' y' := by rw [h1, h2]
@[congr] theorem evUn_congr {ρ : Operand → V} {o : Oper} {op : UnOp} {x x' : V} (h1 : x = x') : evUn P ρ o op x = evUn P ρ o op x' := by rw [h1]
section
variable (ρ : Operand → V) (o : Oper) (isB : Bool) (k : IntKind) (a b : Int)
@[go_sem ↓] theorem bin_add : evBin P ρ o .add isB (.sc (.int k a)) (.sc (.int k b)) = some (.sc (.int k (k.wrap (a + b))), []) := by simp [evBin, fastBin, binI]
@[go_sem ↓] theorem bin_sub : evBin P ρ o .sub isB (.sc (.int k a)) (.sc (.int k b)) = some (.sc (.int k (k.wrap (a - b))), []) := by simp [evBin, fastBin, binI]
@[go_sem ↓] theorem bin_mul : evBin P ρ o .mul isB (.sc (.int k a)) (.sc (.int k b)) = some (.sc (.int k (k.wrap (a * b))), []) := by simp [evBin, fastBin, binI]
@[go_sem] theorem bin_quo (h : b ≠ 0) : evBin P ρ o .quo isB (.sc (.int k a)) (.sc (.int k b)) = some (.sc (.int k (k.wrap (a.tdiv b))), []) := by simp [evBin, fastBin, binI, h]
@[go_sem] theorem bin_rem (h : b ≠ 0) : evBin P ρ o .rem isB (.sc (.int k a)) (.sc (.int k b)) = some (.sc (.int k (a.tmod b)), []) := by simp [evBin, fastBin, binI, h]
@[go_sem ↓] theorem bin_eql : evBin P ρ o .eql isB (.sc (.int k a)) (.sc (.int k b)) = some (.sc (.bool (a == b)), []) := by simp [evBin, fastBin, binI]
@[go_sem ↓] theorem bin_neq : evBin P ρ o .neq isB (.sc (.int k a)) (.sc (.int k b)) = some (.sc (.bool (a != b)), []) := by simp [evBin, fastBin, binI]
@[go_sem ↓] theorem bin_lss : evBin P ρ o .lss isB (.sc (.int k a)) (.sc (.int k b)) = some (.sc (.bool (decide (a < b))), []) := by simp [evBin, fastBin, binI]
@[go_sem ↓] theorem bin_leq : evBin P ρ o .leq isB (.sc (.int k a)) (.sc (.int k b)) = some (.sc (.bool (decide (a ≤ b))), []) := by simp [evBin, fastBin, binI]
@[go_sem ↓] theorem bin_gtr : evBin P ρ o .gtr isB (.sc (.int k a)) (.sc (.int k b)) = some (.sc (.bool (decide (a > b))), []) := by simp [evBin, fastBin, binI]
@[go_sem ↓] theorem bin_geq : evBin P ρ o .geq isB (.sc (.int k a)) (.sc (.int k b)) = some (.sc (.bool (decide (a ≥ b))), []) := by simp [evBin, fastBin, binI]
@[go_sem ↓] theorem bin_and : evBin P ρ o .and isB (.sc (.int k a)) (.sc (.int k b)) = some (.sc (.int k (andI k a b)), []) := by simp [evBin, fastBin, binI]
@[go_sem ↓] theorem bin_or : evBin P ρ o .or isB (.sc (.int k a)) (.sc (.int k b)) = some (.sc (.int k (orI k a b)), []) := by simp [evBin, fastBin, binI]
@[go_sem ↓] theorem bin_xor : evBin P ρ o .xor isB (.sc (.int k a)) (.sc (.int k b)) = some (.sc (.int k (xorI k a b)), []) := by simp [evBin, fastBin, binI]
@[go_sem ↓] theorem bin_seql (s t : ByteArray) : evBin P ρ o .eql isB (.sc (.string s)) (.sc (.string t)) = some (.sc (.bool (s.toList == t.toList)), []) := by simp [evBin, fastBin, binS]
@[go_sem ↓] theorem bin_sneq (s t : ByteArray) : evBin P ρ o .neq isB (.sc (.string s)) (.sc (.string t)) = some (.sc (.bool (!(s.toList == t.toList))), []) := by simp [evBin, fastBin, binS]
@[go_sem] theorem bin_shl (k' : IntKind) (h : ¬ b < 0) : evBin P ρ o .shl isB (.sc (.int k a)) (.sc (.int k' b)) = some (.sc (.int k (k.wrap (a * 2 ^ (min b.toNat k.bits)))), []) := by
  by_cases e : k = k' <;> simp [evBin, fastBin, binI, shI, h, e]
@[go_sem] theorem bin_shr (k' : IntKind) (h : ¬ b < 0) : evBin P ρ o .shr isB (.sc (.int k a)) (.sc (.int k' b)) = some (.sc (.int k (a.fdiv (2 ^ (min b.toNat k.bits)))), []) := by
  by_cases e : k = k' <;> simp [evBin, fastBin, binI, shI, h, e]
@[go_sem] theorem bin_sadd {s t : ByteArray} (h : ((s.size + t.size : Nat) : Int) ≤ IntKind.i64.max) : evBin P ρ o .add isB (.sc (.string s)) (.sc (.string t)) = some (.sc (.string (s ++ t)), []) := by
  have : ¬ (((s.size + t.size : Nat) : Int) > IntKind.i64.max) := by omega
  simp only [evBin, fastBin, binS, if_neg this]
@[go_sem ↓] theorem bin_beql (s t : Bool) : evBin P ρ o .eql true (.sc (.bool s)) (.sc (.bool t)) = some (.sc (.bool (s == t)), []) := by simp [evBin, fastBin, binB]
@[go_sem ↓] theorem un_not (b : Bool) : evUn P ρ o .not (.sc (.bool b)) = some (.sc (.bool (!b)), []) := nd rfl
@[go_sem ↓] theorem un_neg : evUn P ρ o .neg (.sc (.int k a)) = some (.sc (.int k (k.wrap (0 - a))), []) := nd rfl
end
@[go_sem ↓] theorem ev_len (x : A) (o : Oper) : evIO P Φ n τ H (.len x o) = lenI P τ o (x.get τ) := by
  simp only [evIO]
  generalize x.get τ = v
  cases v <;> rfl
@[go_sem ↓] theorem lenI_slice (o : Oper) (sz : Nat) (es : List V) : lenI P τ o (.slice sz es) = some (.sc (.int .i64 (es.length : Int)), []) := nd rfl
@[go_sem ↓] theorem lenI_own (o : Oper) (id off len : Nat) : lenI P τ o (.own id off len) = some (.sc (.int .i64 (len : Int)), []) := nd rfl
@[go_sem ↓] theorem lenI_mt (o : Oper) : lenI P τ o .mt = some (.sc (.int .i64 0), []) := nd rfl
end
section
@[go_sem ↓] theorem noRef_sc (x : Value) : noRef (.sc x) = .sc x := nd rfl
@[go_sem ↓] theorem noRef_agg (x : List V) : noRef (.agg x) = .agg x := nd rfl
@[go_sem ↓] theorem noRef_slice (k : Nat) (x : List V) : noRef (.slice k x) = .slice k x := nd rfl
@[go_sem ↓] theorem noRef_own (i o l : Nat) : noRef (.own i o l) = .own i o l := nd rfl
@[go_sem ↓] theorem map_noRef_nil : ([] : List V).map noRef = [] := nd rfl
@[go_sem ↓] theorem map_noRef_cons (x : V) (xs : List V) : (x :: xs).map noRef = noRef x :: xs.map noRef := nd rfl
end
section
variable (n : Nat) (τ : Nat → V) (H : Heap)
def callK (δ : List (Nat × Obj)) : Option V → Option (V × List (Nat × Obj))
  | some r => some (r, δ)
  | none => none
def callJ (F : List V → Option V) (δ : List (Nat × Obj)) : Option (List V) → Option (V × List (Nat × Obj))
  | some ys => callK δ (F ys)
  | none => none
def callI (H : Heap) (vs : List V) : Option (List V → Option V) → Option (V × List (Nat × Obj))
  | some F => callJ F (froze H (vs.flatMap V.ids)) (freezes H (vs.map noRef))
  | none => none
@[congr] theorem callI_congr {vs vs' : List V} {F F' : Option (List V → Option V)} (h1 : vs = vs') (h2 : F = F') : callI H vs F = callI H vs' F' := by rw [h1, h2]
@[congr] theorem callJ_congr {F : List V → Option V} {δ δ' : List (Nat × Obj)} {ys ys' : Option (List V)} (h1 : δ = δ') (h2 : ys = ys') : callJ F δ ys = callJ F δ' ys' := by rw [h1, h2]
@[go_sem ↓] theorem ev_call (f : FuncId) (xs : List A) : evIO P Φ n τ H (.call f xs) = callI H (xs.map (A.get τ)) (Φ f) := by
  simp only [evIO]
  cases Φ f with
  | none => rfl
  | some F =>
    simp only [Option.bind_some, callI]
    cases freezes H ((xs.map (A.get τ)).map noRef) with
    | none => rfl
    | some ys =>
      simp only [Option.bind_some, callJ]
      cases F ys <;> rfl
@[go_sem ↓] theorem callI_some (vs : List V) (F : List V → Option V) : callI H vs (some F) = callJ F (froze H (vs.flatMap V.ids)) (freezes H (vs.map noRef)) := nd rfl
@[go_sem ↓] theorem callJ_some (F : List V → Option V) (δ : List (Nat × Obj)) (ys : List V) : callJ F δ (some ys) = callK δ (F ys) := nd rfl
@[go_sem ↓] theorem callK_some (δ : List (Nat × Obj)) (r : V) : callK δ (some r) = some (r, δ) := nd rfl
@[go_sem ↓] theorem map_A_nil : ([] : List A).map (A.get τ) = [] := nd rfl
@[go_sem ↓] theorem map_A_cons (x : A) (xs : List A) : (x :: xs).map (A.get τ) = x.get τ :: xs.map (A.get τ) := nd rfl
end
def froze1 (id : Nat) (rest : List (Nat × Obj)) : Obj → List (Nat × Obj)
  | .live sz es true => if es.all V.isF = true then (id, .live sz es false) :: rest else rest
  | _ => rest
@[go_sem ↓] theorem froze_nil (H : Heap) : froze H [] = [] := nd rfl
@[go_sem ↓] theorem froze_cons (H : Heap) (id : Nat) (ids : List Nat) : froze H (id :: ids) = froze1 id (froze H ids) (H id) := by
  unfold froze
  rw [List.filterMap_cons]
  generalize H id = ob
  cases ob with
  | live sz es mu =>
    cases mu with
    | true =>
      simp only [froze1]
      by_cases h : es.all V.isF = true
      · simp only [if_pos h]
      · simp only [if_neg h]
    | false => rfl
  | _ => rfl
@[go_sem ↓] theorem froze1_mut (id : Nat) (rest : List (Nat × Obj)) (sz : Nat) (es : List V) : froze1 id rest (.live sz es true) = if es.all V.isF = true then (id, .live sz es false) :: rest else rest := nd rfl
@[go_sem ↓] theorem froze1_fix (id : Nat) (rest : List (Nat × Obj)) (sz : Nat) (es : List V) : froze1 id rest (.live sz es false) = rest := nd rfl
def resW (H : Heap) : List V → Option V
  | [x] => freezeR H x
  | xs => (freezesR H xs).map .tup
theorem resLF_tmps (τ : Nat → V) (H : Heap) (n : Nat) : ∀ ts : List Nat, resLF P ⟨τ, H, n⟩ (ts.map .tmp) = some (ts.map τ)
  | [] => rfl
  | t :: ts => by simp only [List.map_cons, resLF, resOneF, resLF_tmps τ H n ts]
theorem freezesR_length {H : Heap} : ∀ {xs ys : List V}, freezesR H xs = some ys → ys.length = xs.length
  | [], ys, h => by simp [freezesR] at h; subst h; rfl
  | x :: xs, ys, h => by
    simp only [freezesR] at h
    split at h
    · rename_i a b h1 h2
      cases h
      simp [freezesR_length h2]
    · cases h
theorem resF_tmps (τ : Nat → V) (H : Heap) (n : Nat) (ts : List Nat) : resF P (ts.map .tmp) ⟨τ, H, n⟩ = resW H (ts.map τ) := by
  simp only [resF, resLF_tmps, Option.bind_some]
  generalize ts.map τ = xs
  match xs with
  | [] => rfl
  | [x] =>
    simp only [resW, freezesR]
    cases freezeR H x <;> rfl
  | x :: y :: zs =>
    simp only [resW]
    cases h : freezesR H (x :: y :: zs) with
    | none => rfl
    | some ys =>
      have hl := freezesR_length h
      match ys, hl with
      | [], hl => simp at hl
      | [a], hl => simp at hl
      | a :: b :: c, _ => rfl
@[go_sem ↓] theorem resF_0 (τ : Nat → V) (H : Heap) (n : Nat) : resF P [] ⟨τ, H, n⟩ = some (.tup []) := nd rfl
@[go_sem ↓] theorem resF_1 (τ : Nat → V) (H : Heap) (n : Nat) (a : Nat) : resF P [.tmp a] ⟨τ, H, n⟩ = freezeR H (τ a) := resF_tmps τ H n [a]
@[go_sem ↓] theorem resF_2 (τ : Nat → V) (H : Heap) (n : Nat) (a b : Nat) : resF P [.tmp a, .tmp b] ⟨τ, H, n⟩ = (freezesR H [τ a, τ b]).map .tup := resF_tmps τ H n [a, b]
@[go_sem ↓] theorem freezeR_at (H : Heap) (v : V) : freezeR H v = orO (freeze H v) (mapR H v) := nd rfl
@[congr] theorem orO_congr {x x' : Option V} {y : Option V} (h : x = x') : orO x y = orO x' y := by rw [h]
@[go_sem ↓] theorem orO_some (x : V) (y : Option V) : orO (some x) y = some x := nd rfl
@[go_sem ↓] theorem orO_none (y : Option V) : orO none y = y := nd rfl
def mapRO : Obj → Option V
  | .ext (.map ks vs) => if vs.all V.isF = true then some (.mapf ks vs) else none
  | _ => none
@[go_sem ↓] theorem mapR_mapr (H : Heap) (id : Nat) : mapR H (.mapr id) = mapRO (H id) := by
  simp only [mapR]
  generalize H id = ob
  cases ob with
  | ext e => cases e <;> rfl
  | _ => rfl
@[go_sem ↓] theorem mapRO_map (ks : List Value) (vs : List V) : mapRO (.ext (.map ks vs)) = if vs.all V.isF = true then some (.mapf ks vs) else none := nd rfl
def endsI (P : Program) (rs : List ResultVar) (r : V) : Exit → SF → Prop
  | .normal, s => resF P rs s = some r
  | .ret, s => resF P rs s = some r
  | _, _ => False
@[go_sem ↓] theorem endsI_ret (rs : List ResultVar) (r : V) (s : SF) : endsI P rs r .ret s = (resF P rs s = some r) := nd rfl
def factsI (P : Program) (f : FuncId) : Option (Nat × List ResultVar × IC) := if enters P f then match P.funcs[f]? with
    | some fn => match fn.body with
      | some c => if okCode fn.ntmps c = true then (cCode P c).map fun ic => (fn.ntmps, fn.results.toList, ic) else none
      | none => none
    | none => none
  else none
theorem contractL (hg : Good P Φ) (K : List Nat) {f : FuncId} {nt : Nat} {rs : List ResultVar} {ic : IC} {F : List V → Option V} (hf : factsI P f = some (nt, rs, ic))
    (hp : ∀ xs r, F xs = some r → xs.length ≤ nt)
    (h : ∀ C xs r, F xs = some r → walkI P Φ C nt K ic ⟨pars xs, fun _ => .unborn, 0⟩ (contI P Φ C nt K (endsI P rs r) [])) : Contract P f F := by
  unfold factsI at hf
  split at hf
  · split at hf
    · rename_i fn hfn
      split at hf
      · rename_i c hc
        split at hf
        · rename_i hok
          simp only [Option.map_eq_some_iff, Prod.mk.injEq] at hf
          obtain ⟨ic', hic, rfl, rfl, rfl⟩ := hf
          refine contractI hg K hfn hc hok hic hp fun C xs r hF => ?_
          have hq : endsI P fn.results.toList r = fun e s' => (e = .normal ∨ e = .ret) ∧ resF P fn.results.toList s' = some r := by
            funext e s
            cases e <;> simp [endsI]
          rw [← hq]
          exact h C xs r hF
        · cases hf
      · cases hf
    · cases hf
  · cases hf
theorem facts_enters {f : FuncId} {x : Nat × List ResultVar × IC} (hf : factsI P f = some x) : enters P f = true := by
  unfold factsI at hf
  split at hf
  · assumption
  · cases hf
def add (Φ : Specs) (f : FuncId) (F : List V → Option V) : Specs := fun g => if g = f then some F else Φ g
theorem Good.add (hg : Good P Φ) {f : FuncId} {F : List V → Option V} (he : enters P f = true) (hc : Contract P f F) : Good P (add Φ f F) :=
  ⟨fun g G hG => by
    unfold Idl.add at hG
    split at hG
    · rename_i e
      cases hG
      subst e
      exact ⟨g, fun args w => enters_run he args w, hc⟩
    · exact hg.met g G hG, hg.orders⟩
attribute [go_sem ↓] true_implies false_implies
attribute [go_sem] or_true true_or true_and and_true and_self implies_true Bool.false_eq_true Option.some.injEq V.sc.injEq Value.int.injEq Value.bool.injEq Bool.not_false Bool.not_true V.solid V.cellOk V.cells Value.oneCell' List.all_cons List.all_nil Bool.and_true Bool.true_and if_true
  Option.map_some Option.bind_some V.write freezes freezesR freeze freezeC freezeL V.ids V.idsC List.flatMap_cons List.flatMap_nil List.map_cons List.map_nil
  List.getElem?_cons_zero List.getElem?_cons_succ List.append_nil List.nil_append List.length_cons List.length_nil List.cons_append
end Go.Idl
namespace Go.Idl
set_option linter.all false
universe u
variable [Laid]
variable {P : Program} {Φ : Specs} {C : Ctx} {N : Nat} {K : List Nat}
def pu (op : Op) (ty : Nat) : Oper := { dst := none, op := op, type := ty, pos := "", after := #[], guard := none }
def apartI (bef : List Nat) (acc : List Rec) : Prop := apartAll bef acc.reverse = true
def stepD (P : Program) (Φ : Specs) (C : Ctx) (bef : List Nat) (n0 : Nat) (Q : SF → Prop) (rest : List IOp) (i : Nat) (acc : List Rec) (d : Option Nat) (τ : Nat → V) (H : Heap) (n : Nat) (nd : List Nat) : Option (V × List (Nat × Obj)) → Prop
  | some (v, δ) => drwI P Φ C bef n0 Q rest (i + 1) (⟨.any, δ.map fun p => (p.1, .dead), nd⟩ :: acc) ⟨putF τ d v, putH H δ, n⟩
  | none => False
def fullI (bef : List Nat) (i : Nat) : Prop := fullFrom bef i = true
def stepU (P : Program) (Φ : Specs) (C : Ctx) (bef : List Nat) (n0 : Nat) (Q : SF → Prop) (rest : List IOp) (i : Nat) (acc : List Rec) (d : Option Nat) (io : Ins) (τ : Nat → V) (H : Heap) (n : Nat) (nd : List Nat) : Option (V × List (Nat × Obj)) → Prop
  | some p => stepD P Φ C bef n0 Q rest i acc d τ H n nd (some p)
  | none => fullI bef i ∧ apartI bef acc ∧ inlI P C io ⟨τ, H, n0 + i⟩ fun v s' => seqI P Φ C Q rest ⟨putF τ d v, s'.H, s'.n⟩
def guardD (P : Program) (Φ : Specs) (C : Ctx) (bef : List Nat) (n0 : Nat) (Q : SF → Prop) (rest : List IOp) (i : Nat) (acc : List Rec) (d : Option Nat) (io : Ins) (t : Nat) (want : Bool) (τ : Nat → V) (H : Heap) (n : Nat) : V → Prop
  | .sc (.bool b) => (b = want → stepU P Φ C bef n0 Q rest i acc d io (updT τ t (.sc (.bool want))) H n (needI (n0 + i) (updT τ t (.sc (.bool want))) io) (evIO P Φ (n0 + i) (updT τ t (.sc (.bool want))) H io)) ∧ (b = !want → drwI P Φ C bef n0 Q rest (i + 1) (⟨.any, [], []⟩ :: acc) ⟨putF (updT τ t (.sc (.bool (!want)))) d (.sc undef), H, n⟩)
  | .sc (.tuple x) => drwI P Φ C bef n0 Q rest (i + 1) (⟨.any, [], []⟩ :: acc) ⟨putF (updT τ t (.sc (.tuple x))) d (.sc undef), H, n⟩
  | _ => False
section
variable {bef : List Nat} {n0 : Nat} {Q : SF → Prop} {rest : List IOp} {i : Nat} {acc : List Rec} {τ : Nat → V} {H : Heap} {n : Nat}
@[congr] theorem stepU_congr {d : Option Nat} {io : Ins} {nd nd' : List Nat} {e e' : Option (V × List (Nat × Obj))} (h1 : nd = nd') (h : e = e') :
    stepU P Φ C bef n0 Q rest i acc d io τ H n nd e = stepU P Φ C bef n0 Q rest i acc d io τ H n nd' e' := by rw [h, h1]
@[congr] theorem guardD_congr {d : Option Nat} {io : Ins} {t : Nat} {want : Bool} {e e' : V} (h : e = e') :
    guardD P Φ C bef n0 Q rest i acc d io t want τ H n e = guardD P Φ C bef n0 Q rest i acc d io t want τ H n e' := by rw [h]
@[go_sem ↓] theorem drwI_nil : drwI P Φ C bef n0 Q [] i acc ⟨τ, H, n⟩ = (apartI bef acc ∧ Q ⟨τ, H, n0 + i⟩) := nd rfl
@[go_sem ↓] theorem drwI_un (d : Option Nat) (io : Ins) :
    drwI P Φ C bef n0 Q (⟨d, none, io⟩ :: rest) i acc ⟨τ, H, n⟩ = stepU P Φ C bef n0 Q rest i acc d io τ H n (needI (n0 + i) τ io) (evIO P Φ (n0 + i) τ H io) := by
  simp only [drwI, wantI, true_implies, reduceCtorEq, false_implies, and_true]
  generalize evIO P Φ (n0 + i) τ H io = e
  cases e <;> simp [stepU, stepD, fullI, apartI]
@[go_sem ↓] theorem drwI_gd (d : Option Nat) (t : Nat) (want : Bool) (io : Ins) :
    drwI P Φ C bef n0 Q (⟨d, some (some t, want), io⟩ :: rest) i acc ⟨τ, H, n⟩ = guardD P Φ C bef n0 Q rest i acc d io t want τ H n (τ t) := by
  rw [drwI]
  simp only [wantI]
  have hnd : ∀ {v : V}, τ t = v → updT τ t v = τ := fun h => updT_self h
  generalize hv : τ t = v
  cases v with
  | sc u =>
    cases u with
    | bool b =>
      simp only [guardD]
      cases b <;> cases want <;> simp [hnd hv] <;> (generalize evIO P Φ (n0 + i) τ H io = e; cases e <;> simp [stepU, stepD, fullI, apartI])
    | tuple => simp [guardD, hnd hv]
    | _ => simp [guardD]
  | _ => simp [guardD]
@[go_sem ↓] theorem stepU_some (d : Option Nat) (io : Ins) (nd : List Nat) (p : V × List (Nat × Obj)) : stepU P Φ C bef n0 Q rest i acc d io τ H n nd (some p) = stepD P Φ C bef n0 Q rest i acc d τ H n nd (some p) := Idl.nd rfl
@[go_sem ↓] theorem stepU_call (d : Nat) (f : FuncId) (xs : List A) (nd : List Nat) : stepU P Φ C bef n0 Q rest i acc (some d) (.call f xs) τ H n nd none = (fullI bef i ∧ apartI bef acc ∧ CallT P C f (xs.map (A.get τ)) ⟨τ, H, n0 + i⟩ fun v s' => seqI P Φ C Q rest ⟨updT τ d v, s'.H, s'.n⟩) := Idl.nd rfl
@[go_sem ↓] theorem stepD_0 (d : Nat) (nd : List Nat) (v : V) : stepD P Φ C bef n0 Q rest i acc (some d) τ H n nd (some (v, [])) = drwI P Φ C bef n0 Q rest (i + 1) (⟨.any, [], nd⟩ :: acc) ⟨updT τ d v, H, n⟩ := Idl.nd rfl
@[go_sem ↓] theorem stepD_1 (d : Nat) (nd : List Nat) (v : V) (j : Nat) (x : Obj) : stepD P Φ C bef n0 Q rest i acc (some d) τ H n nd (some (v, [(j, x)])) = drwI P Φ C bef n0 Q rest (i + 1) (⟨.any, [(j, .dead)], nd⟩ :: acc) ⟨updT τ d v, updH H j x, n⟩ := Idl.nd rfl
@[go_sem ↓] theorem stepD_2 (d : Nat) (nd : List Nat) (v : V) (j k : Nat) (x y : Obj) : stepD P Φ C bef n0 Q rest i acc (some d) τ H n nd (some (v, [(j, x), (k, y)])) = drwI P Φ C bef n0 Q rest (i + 1) (⟨.any, [(j, .dead), (k, .dead)], nd⟩ :: acc) ⟨updT τ d v, updH (updH H j x) k y, n⟩ := Idl.nd rfl
@[go_sem ↓] theorem stepD_n1 (nd : List Nat) (v : V) (j : Nat) (x : Obj) : stepD P Φ C bef n0 Q rest i acc none τ H n nd (some (v, [(j, x)])) = drwI P Φ C bef n0 Q rest (i + 1) (⟨.any, [(j, .dead)], nd⟩ :: acc) ⟨τ, updH H j x, n⟩ := Idl.nd rfl
def stepE (P : Program) (Φ : Specs) (C : Ctx) (bef : List Nat) (n0 : Nat) (Q : SF → Prop) (rest : List IOp) (i : Nat) (acc : List Rec) (d t : Nat) (want : Bool) (io : Ins) (τ : Nat → V) (H : Heap) (n : Nat) (b : Bool) (nd : List Nat) (e : Option (V × List (Nat × Obj))) : Prop :=
  (b = want → stepU P Φ C bef n0 Q rest i acc (some d) io (updT τ t (.sc (.bool want))) H n nd e) ∧ (b = !want → drwI P Φ C bef n0 Q rest (i + 1) (⟨.any, [], []⟩ :: acc) ⟨updT (updT τ t (.sc (.bool (!want)))) d (.sc undef), H, n⟩)
@[congr] theorem stepE_congr {d t : Nat} {want b : Bool} {io : Ins} {nd nd' : List Nat} {e e' : Option (V × List (Nat × Obj))} (h1 : b = want → (b = (!want) → False) → nd = nd') (h : e = e') :
    stepE P Φ C bef n0 Q rest i acc d t want io τ H n b nd e = stepE P Φ C bef n0 Q rest i acc d t want io τ H n b nd' e' := by
  rw [h]
  unfold stepE
  refine propext (and_congr ?_ Iff.rfl)
  constructor
  · intro hh hb; rw [← h1 hb (notNot hb)]; exact hh hb
  · intro hh hb; rw [h1 hb (notNot hb)]; exact hh hb
@[go_sem] theorem guardD_bool (d : Nat) (io : Ins) (t : Nat) (want : Bool) (b : Bool) :
    guardD P Φ C bef n0 Q rest i acc (some d) io t want τ H n (.sc (.bool b)) = stepE P Φ C bef n0 Q rest i acc d t want io τ H n b (needI (n0 + i) (updT τ t (.sc (.bool want))) io) (whenE b want (evIO P Φ (n0 + i) (updT τ t (.sc (.bool want))) H io)) := by
  simp only [guardD, stepE, putF, whenE]
  by_cases h : b = want
  · simp [h]
  · simp [h]
@[go_sem ↓] theorem stepE_pure (d t : Nat) (want : Bool) (io : Ins) (b : Bool) (v : V) :
    stepE P Φ C bef n0 Q rest i acc d t want io τ H n b [] (whenE b want (some (v, []))) = drwI P Φ C bef n0 Q rest (i + 1) (⟨.any, [], []⟩ :: acc) ⟨updT (updT τ t (.sc (.bool b))) d (whenV b want v), H, n⟩ := by
  simp only [stepE, whenE, whenV]
  cases b <;> cases want <;> simp [stepU, stepD, putF, putH]
section
variable (d t : Nat) (io : Ins) (nd : List Nat) (e : Option (V × List (Nat × Obj)))
@[go_sem ↓] theorem stepE_tf : stepE P Φ C bef n0 Q rest i acc d t true io τ H n false nd e = drwI P Φ C bef n0 Q rest (i + 1) (⟨.any, [], []⟩ :: acc) ⟨updT (updT τ t (.sc (.bool false))) d (.sc undef), H, n⟩ := by simp [stepE]
@[go_sem ↓] theorem stepE_ft : stepE P Φ C bef n0 Q rest i acc d t false io τ H n true nd e = drwI P Φ C bef n0 Q rest (i + 1) (⟨.any, [], []⟩ :: acc) ⟨updT (updT τ t (.sc (.bool true))) d (.sc undef), H, n⟩ := by simp [stepE]
@[go_sem ↓] theorem stepE_tt : stepE P Φ C bef n0 Q rest i acc d t true io τ H n true nd e = stepU P Φ C bef n0 Q rest i acc (some d) io (updT τ t (.sc (.bool true))) H n nd e := by simp [stepE]
@[go_sem ↓] theorem stepE_ff : stepE P Φ C bef n0 Q rest i acc d t false io τ H n false nd e = stepU P Φ C bef n0 Q rest i acc (some d) io (updT τ t (.sc (.bool false))) H n nd e := by simp [stepE]
end
@[go_sem ↓] theorem walkI_drw (ops : List IOp) (R : Exit → SF → Prop) (fr : List Fr) : walkI P Φ C N K (.drw bef ops) ⟨τ, H, n⟩ (contI P Φ C N K R fr) = drwI P Φ C bef n (endReg P Φ C N K R fr) ops 0 [] ⟨τ, H, n⟩ := nd rfl
end
section
variable (m : Nat) (τ : Nat → V)
def refI : V → List Nat
  | .ref id _ _ => [id]
  | _ => []
@[go_sem ↓] theorem need_mv (x : A) : needI m τ (.mv x) = [] := nd rfl
@[go_sem ↓] theorem need_pick (c x y : A) : needI m τ (.pick c x y) = [] := nd rfl
@[go_sem ↓] theorem need_al (z : V) (k : Nat) : needI m τ (.al z k) = [m] := nd rfl
@[go_sem ↓] theorem need_bsl (a b : Nat) (c : Bool) (d : List V) (e : List (Nat × Nat × A)) : needI m τ (.bsl a b c d e) = m :: idsP (getP τ e) := nd rfl
@[go_sem ↓] theorem need_mks (a b : Nat) (c : V) (d e : A) : needI m τ (.mks a b c d e) = [m] := nd rfl
@[go_sem ↓] theorem need_ld (a : Option Nat) (x : A) : needI m τ (.ld a x) = refI (x.get τ) := by
  simp only [needI]; cases x.get τ <;> rfl
@[go_sem ↓] theorem need_st (a : Nat) (x y : A) : needI m τ (.st a x y) = refI (x.get τ) := by
  simp only [needI]; cases x.get τ <;> rfl
@[go_sem ↓] theorem refI_ref (id a b : Nat) : refI (.ref id a b) = [id] := nd rfl
@[go_sem ↓] theorem refI_elem (e : V) (o : Nat) : refI (.elem e o) = [] := nd rfl
@[go_sem ↓] theorem need_ixs (a : Nat) (x i : A) : needI m τ (.ixs a x i) = (x.get τ).ids := nd rfl
@[go_sem ↓] theorem need_sl (a : Nat) (x : A) (b c d : Option A) (o : Oper) : needI m τ (.sl a x b c d o) = (x.get τ).ids := nd rfl
@[go_sem ↓] theorem need_app (a b : Nat) (x y : A) : needI m τ (.app a b x y) = m :: ((x.get τ).ids ++ (y.get τ).ids) := nd rfl
@[go_sem ↓] theorem need_call (f : FuncId) (xs : List A) : needI m τ (.call f xs) = (xs.map (A.get τ)).flatMap V.ids := by
  simp only [needI, List.flatMap_map]
@[go_sem ↓] theorem need_sh (a : Nat) (x : A) : needI m τ (.sh a x) = [] := nd rfl
@[go_sem ↓] theorem need_ext (x : A) (i : Nat) : needI m τ (.ext x i) = [] := nd rfl
@[go_sem ↓] theorem need_bld (z : List V) (ps : List (Nat × Nat × A)) : needI m τ (.bld z ps) = [] := nd rfl
@[go_sem ↓] theorem need_bin (op : BinOp) (b : Bool) (x y : A) (o : Oper) : needI m τ (.bin op b x y o) = [] := nd rfl
@[go_sem ↓] theorem need_len (x : A) (o : Oper) : needI m τ (.len x o) = idM (x.get τ) := nd rfl
@[go_sem ↓] theorem need_mpt (ag : Bool) (ks : List CK) (x k v : A) : needI m τ (.mpt ag ks x k v) = idM (x.get τ) := nd rfl
@[go_sem ↓] theorem need_mlk (ag : Bool) (ks : List CK) (z : V) (b : Bool) (x k : A) (o : Oper) : needI m τ (.mlk ag ks z b x k o) = idM (x.get τ) := nd rfl
@[congr] theorem idM_congr {x x' : V} (h : x = x') : idM x = idM x' := by rw [h]
@[go_sem ↓] theorem idM_mapr (id : Nat) : idM (.mapr id) = [id] := nd rfl
@[go_sem ↓] theorem idM_slice (a : Nat) (b : List V) : idM (.slice a b) = [] := nd rfl
@[go_sem ↓] theorem need_nck (x : A) (o : Oper) : needI m τ (.nck x o) = [] := nd rfl
end
section
variable (n : Nat) (τ : Nat → V) (H : Heap)
def ixsO (sz id off len : Nat) (j : Int) : Obj → Option (V × List (Nat × Obj))
  | .live s _ _ => if s = sz ∧ 0 ≤ j ∧ j < len then some (.ref id (off + j.toNat) 0, []) else none
  | _ => none
def ixsI (H : Heap) (sz : Nat) : V → V → Option (V × List (Nat × Obj))
  | .sc (.int _ j), .slice s es => if s = sz ∧ 0 ≤ j then (es[j.toNat]?).map fun e => (.elem e 0, []) else none
  | .sc (.int _ j), .own id off len => ixsO sz id off len j (H id)
  | _, _ => none
@[congr] theorem ixsI_congr {sz : Nat} {x x' y y' : V} (h1 : x = x') (h2 : y = y') : ixsI H sz x y = ixsI H sz x' y' := by rw [h1, h2]
@[go_sem ↓] theorem ev_ixs (sz : Nat) (x i : A) : evIO P Φ n τ H (.ixs sz x i) = ixsI H sz (i.get τ) (x.get τ) := by
  simp only [evIO]
  generalize i.get τ = vi
  generalize x.get τ = vx
  cases vi with
  | sc u =>
    cases u <;> cases vx <;> first | rfl | (dsimp only [ixsI]; generalize H _ = ob; cases ob <;> rfl)
  | _ => rfl
@[go_sem ↓] theorem ixsI_slice (sz s : Nat) (k : IntKind) (j : Int) (es : List V) : ixsI H sz (.sc (.int k j)) (.slice s es) = if s = sz ∧ 0 ≤ j then (es[j.toNat]?).map fun e => (V.elem e 0, []) else none := nd rfl
@[go_sem ↓] theorem ixsI_own (sz : Nat) (k : IntKind) (j : Int) (id off len : Nat) : ixsI H sz (.sc (.int k j)) (.own id off len) = ixsO sz id off len j (H id) := nd rfl
@[go_sem ↓] theorem ixsO_live (sz id off len : Nat) (j : Int) (s : Nat) (es : List V) (mu : Bool) : ixsO sz id off len j (.live s es mu) = if s = sz ∧ 0 ≤ j ∧ j < len then some (.ref id (off + j.toNat) 0, []) else none := nd rfl
def fldI (ag : Option Nat) (off : Nat) : V → Option (V × List (Nat × Obj))
  | .agg cs => (readI ag cs off).map (·, [])
  | _ => none
@[go_sem ↓] theorem ev_bld (z : List V) (ps : List (Nat × Nat × A)) : evIO P Φ n τ H (.bld z ps) = (fillI z (getP τ ps)).map fun cs => (.agg cs, []) := nd rfl
@[go_sem ↓] theorem getP_nil : getP τ [] = [] := nd rfl
@[go_sem ↓] theorem getP_cons (a b : Nat) (x : A) (ps : List (Nat × Nat × A)) : getP τ ((a, b, x) :: ps) = (a, b, x.get τ) :: getP τ ps := nd rfl
@[go_sem ↓] theorem fillI_nil (cells : List V) : fillI cells [] = some cells := nd rfl
@[go_sem] theorem fillI_cons (cells : List V) (off size : Nat) (v : V) (rest : List (Nat × Nat × V)) :
    fillI cells ((off, size, v) :: rest) = if v.solid = true ∧ v.cells.length = size ∧ off + size ≤ cells.length then fillI (splice cells off v.cells) rest else none := nd rfl
def bslI (n sz len : Nat) (ag : Bool) (cs : Option (List V)) : Obj → Option (V × List (Nat × Obj))
  | .unborn => cs.bind fun cs => if ag = true ∨ (sz = 1 ∧ cs.all V.cellOk = true) then some (.own n 0 len, [(n, .live sz (chunks ag sz cs len) true)]) else none
  | _ => none
@[go_sem ↓] theorem ev_bsl (sz len : Nat) (ag : Bool) (z : List V) (ps : List (Nat × Nat × A)) : evIO P Φ n τ H (.bsl sz len ag z ps) = addD (froze H (idsP (getP τ ps))) (bslI n sz len ag (fillI z (frzP H (getP τ ps))) (H n)) := by
  simp only [evIO]
  generalize H n = ob
  cases ob <;> rfl
@[go_sem] theorem addD_some (d e : List (Nat × Obj)) (v : V) : addD d (some (v, e)) = some (v, d ++ e) := nd rfl
def orV (v : V) : Option V → V
  | some x => x
  | none => v
@[go_sem ↓] theorem orV_some (v x : V) : orV v (some x) = x := nd rfl
@[go_sem] theorem frzP_nil (H : Heap) : frzP H [] = [] := nd rfl
@[go_sem] theorem frzP_cons (H : Heap) (a b : Nat) (v : V) (ps : List (Nat × Nat × V)) : frzP H ((a, b, v) :: ps) = (a, b, orV v (freeze H v)) :: frzP H ps := by
  simp only [frzP, List.map_cons, frz1]
  cases freeze H v <;> rfl
@[go_sem] theorem idsP_nil : idsP [] = [] := nd rfl
@[go_sem] theorem idsP_cons (a b : Nat) (v : V) (ps : List (Nat × Nat × V)) : idsP ((a, b, v) :: ps) = v.ids ++ idsP ps := nd rfl
attribute [go_sem] List.nil_append List.cons_append
@[go_sem] theorem bslI_unborn (sz len : Nat) (ag : Bool) (cs : List V) : bslI n sz len ag (some cs) .unborn = if ag = true ∨ (sz = 1 ∧ cs.all V.cellOk = true) then some (.own n 0 len, [(n, .live sz (chunks ag sz cs len) true)]) else none := nd rfl
def rngI (n : Nat) : V → Obj → Option (V × List (Nat × Obj))
  | .sc (.string s), .unborn => some (.ref n 0 0, [(n, .ext (.iter s 0))])
  | _, _ => none
@[go_sem ↓] theorem ev_rng (x : A) : evIO P Φ n τ H (.rng x) = rngI n (x.get τ) (H n) := by
  simp only [evIO]
  generalize x.get τ = vx
  generalize H n = ob
  cases vx with
  | sc u => cases u <;> cases ob <;> rfl
  | _ => rfl
@[go_sem ↓] theorem rngI_str (s : ByteArray) : rngI n (.sc (.string s)) .unborn = some (.ref n 0 0, [(n, .ext (.iter s 0))]) := nd rfl
def nxtO (id : Nat) : Obj → Option (V × List (Nat × Obj))
  | .ext (.iter s pos) => if pos < s.size then some (.tup [.sc (.bool true), .sc (.int .i64 pos), .sc (.int .i32 (Utf8.decode s pos).1)], [(id, .ext (.iter s (pos + (Utf8.decode s pos).2)))])
      else some (.tup [.sc (.bool false)], [])
  | _ => none
def nxtI (H : Heap) : V → Option (V × List (Nat × Obj))
  | .ref id 0 0 => nxtO id (H id)
  | _ => none
@[congr] theorem nxtI_congr {x x' : V} (h1 : x = x') : nxtI H x = nxtI H x' := by rw [h1]
@[go_sem ↓] theorem ev_nxt (x : A) : evIO P Φ n τ H (.nxt x) = nxtI H (x.get τ) := by
  simp only [evIO]
  generalize x.get τ = vx
  cases vx with
  | ref id idx off =>
    cases idx with
    | zero =>
      cases off with
      | zero =>
        dsimp only [nxtI]
        generalize H id = ob
        cases ob with
        | ext e => cases e <;> rfl
        | _ => rfl
      | succ => rfl
    | succ => rfl
  | _ => rfl
@[go_sem ↓] theorem nxtI_ref (id : Nat) : nxtI H (.ref id 0 0) = nxtO id (H id) := nd rfl
@[go_sem] theorem nxtO_iter (id : Nat) (s : ByteArray) (pos : Nat) : nxtO id (.ext (.iter s pos)) = if pos < s.size then some (.tup [.sc (.bool true), .sc (.int .i64 pos), .sc (.int .i32 (Utf8.decode s pos).1)], [(id, .ext (.iter s (pos + (Utf8.decode s pos).2)))])
      else some (.tup [.sc (.bool false)], []) := nd rfl
end
def evStuck (P : Program) (Φ : Specs) (n : Nat) (τ : Nat → V) (H : Heap) (io : Ins) : Option (V × List (Nat × Obj)) := evIO P Φ n τ H io
def onStr {β : Type} (f : ByteArray → β) (e : β) : V → β
  | .sc (.string s) => f s
  | _ => e
@[congr] theorem onStr_congr {β : Type} {f : ByteArray → β} {e : β} {v v' : V} (h : v = v') : onStr f e v = onStr f e v' := by rw [h]
@[go_sem ↓] theorem onStr_str {β : Type} (f : ByteArray → β) (e : β) (s : ByteArray) : onStr f e (.sc (.string s)) = f s := nd rfl
def onInt {β : Type} (f : IntKind → Int → β) (e : β) : V → β
  | .sc (.int k j) => f k j
  | _ => e
theorem evPure_of {ρ : Operand → V} {o : Oper} {v : Value} (h1 : o.op.operands.all (fun x => (ρ x).conc.isSome) = true) (h0 : ∀ a b, o.op ≠ .select a b)
    (h2 : runPure P (execOp (fun x => ((ρ x).conc).getD undef) o) = some (.value v)) : evPure P ρ o = some (V.ofV v, []) := by
  unfold evPure
  rw [if_pos h1]
  split
  · rename_i a b h; exact absurd h (h0 a b)
  · rw [h2]
section
variable (n : Nat) (τ : Nat → V) (H : Heap)
@[go_sem ↓] theorem ev_lens_t {t : TypeId} (h : P.underlying t = some .string) (k ty : Nat) :
    evIO P Φ n τ H (.lens (.t k) (pu (.call ⟨.builtin .len, #[.tmp k], #[t]⟩) ty)) = onStr (fun s => some (.sc (.int .i64 (s.size : Int)), [])) (evStuck P Φ n τ H (.lens (.t k) (pu (.call ⟨.builtin .len, #[.tmp k], #[t]⟩) ty))) (τ k) := by
  generalize hv : τ k = v
  cases v with
  | sc u =>
    cases u with
    | string s =>
      simp only [onStr, evIO, A.get, hv]
      refine evPure_of (v := .int .i64 (s.size : Int)) ?_ (by simp [pu]) ?_
      · simp [pu, Op.operands, Call.operands, opd, hv, V.conc]
      · simp [pu, execOp, resolve, opd, hv, V.conc, runPure_bind, runPure_pure, runPure_underlying h, invoke, builtin, Builtin.len_, goInt]
    | _ => rfl
  | _ => rfl
def convI (d d' : Option TypeDesc) (e : Option (V × List (Nat × Obj))) (v : V) : Option (V × List (Nat × Obj)) :=
  match d, d', v with
  | some _, some (.int k), .sc (.int _ j) => some (.sc (.int k (k.wrap j)), [])
  | _, _, _ => e
@[congr] theorem convI_congr {d d' c c' : Option TypeDesc} {e : Option (V × List (Nat × Obj))} {v v' : V} (h1 : d = d') (h2 : c = c') (h3 : v = v') : convI d c e v = convI d' c' e v' := by rw [h1, h2, h3]
@[go_sem ↓] theorem convI_int (d : TypeDesc) (k k' : IntKind) (j : Int) (e : Option (V × List (Nat × Obj))) : convI (some d) (some (.int k)) e (.sc (.int k' j)) = some (.sc (.int k (k.wrap j)), []) := nd rfl
@[go_sem ↓] theorem ev_conv_t (t t' : TypeId) (a ty : Nat) :
    evIO P Φ n τ H (.pur (pu (.convert t t' (.tmp a)) ty)) = convI (P.underlying t) (P.underlying t') (evStuck P Φ n τ H (.pur (pu (.convert t t' (.tmp a)) ty))) (τ a) := by
  unfold convI
  split
  · rename_i d k k' j h0 h hj
    simp only [evIO]
    refine evPure_of (v := .int k (k.wrap j)) ?_ (by simp [pu]) ?_
    · simp [pu, Op.operands, opd, hj, V.conc]
    · simp [pu, execOp, opd, hj, V.conc, runPure_bind, runPure_pure, runPure_underlying h, runPure_underlying h0, convert, Conv.intToInt]
  · rfl
end
section
variable (n : Nat) (τ : Nat → V) (H : Heap)
def mlkI (H : Heap) (ag : Bool) (ks : List CK) (z : V) (b : Bool) (e : Option (V × List (Nat × Obj))) (kv : Option Value) : V → Option (V × List (Nat × Obj))
  | .mapr id => lookI ag ks z b kv (H id)
  | .mapf keys vs => lookI ag ks z b kv (.ext (.map keys vs))
  | _ => e
def mptI (H : Heap) (ag : Bool) (ks : List CK) (v : V) (kv : Option Value) : V → Option (V × List (Nat × Obj))
  | .mapr id => putI ag ks id v kv (H id)
  | _ => none
variable {ag : Bool} {ks : List CK} {z : V} {b : Bool} {e : Option (V × List (Nat × Obj))}
@[congr] theorem mlkI_congr {kv kv' : Option Value} {x x' : V} (h1 : kv = kv') (h2 : x = x') : mlkI H ag ks z b e kv x = mlkI H ag ks z b e kv' x' := by rw [h1, h2]
@[congr] theorem mptI_congr {v v' : V} {kv kv' : Option Value} {x x' : V} (h0 : v = v') (h1 : kv = kv') (h2 : x = x') : mptI H ag ks v kv x = mptI H ag ks v' kv' x' := by rw [h0, h1, h2]
@[go_sem ↓] theorem ev_mmk (r : Option A) : evIO P Φ n τ H (.mmk r) = mmkI n (r.map (A.get τ)) (H n) := nd rfl
@[go_sem ↓] theorem mmkI_1 (k : IntKind) (j : Int) : mmkI n (some (.sc (.int k j))) .unborn = some (.mapr n, [(n, .ext (.map [] []))]) := nd rfl
@[go_sem ↓] theorem ev_mlk (x k : A) (o : Oper) : evIO P Φ n τ H (.mlk ag ks z b x k o) = mlkI H ag ks z b (evPure P (opd τ) o) (kvOf ag (k.get τ)) (x.get τ) := by
  simp only [evIO]
  generalize x.get τ = vx
  cases vx <;> rfl
@[go_sem ↓] theorem ev_mpt (x k v : A) : evIO P Φ n τ H (.mpt ag ks x k v) = mptI H ag ks (v.get τ) (kvOf ag (k.get τ)) (x.get τ) := by
  simp only [evIO]
  generalize x.get τ = vx
  cases vx <;> rfl
@[go_sem ↓] theorem mlkI_mapf (kv : Option Value) (keys : List Value) (vs : List V) : mlkI H ag ks z b e kv (.mapf keys vs) = lookI ag ks z b kv (.ext (.map keys vs)) := nd rfl
@[go_sem ↓] theorem mptI_mapr (v : V) (kv : Option Value) (id : Nat) : mptI H ag ks v kv (.mapr id) = putI ag ks id v kv (H id) := nd rfl
@[go_sem ↓] theorem lookI_map (kv : Value) (keys : List Value) (vs : List V) : lookI ag ks z b (some kv) (.ext (.map keys vs)) = lookF z b vs (idxI ag ks kv keys) := nd rfl
@[go_sem ↓] theorem putI_map (id : Nat) (v : V) (kv : Value) (keys : List Value) (vs : List V) : putI ag ks id v (some kv) (.ext (.map keys vs)) = putF' id kv v keys vs (idxI ag ks kv keys) := nd rfl
@[go_sem ↓] theorem lookV_t (v : V) (ok : Bool) : lookV true v ok = .tup [v, .sc (.bool ok)] := nd rfl
end
end Go.Idl
namespace Go.Idl
set_option linter.all false
variable [Laid]
variable {P : Program} {Φ : Specs} {C : Ctx} {N : Nat} {K : List Nat}
def slotsL : List (Nat × V) → Nat → V
  | [], _ => .any
  | (k, v) :: L, t => if t = k then v else slotsL L t
@[go_sem ↓] theorem slotsL_nil (t : Nat) : slotsL [] t = .any := nd rfl
@[go_sem ↓] theorem slotsL_cons (k : Nat) (v : V) (L : List (Nat × V)) (t : Nat) : slotsL ((k, v) :: L) t = if t = k then v else slotsL L t := nd rfl
def holdsL (τ : Nat → V) : List (Nat × V) → Prop
  | [] => True
  | (k, v) :: L => τ k = v ∧ holdsL τ L
@[go_sem ↓] theorem holdsL_nil (τ : Nat → V) : holdsL τ [] = True := nd rfl
@[go_sem ↓] theorem holdsL_cons (τ : Nat → V) (k : Nat) (v : V) (L : List (Nat × V)) : holdsL τ ((k, v) :: L) = (τ k = v ∧ holdsL τ L) := nd rfl
theorem slotsL_of {τ : Nat → V} : ∀ {L : List (Nat × V)}, holdsL τ L → ∀ t, slotsL L t = .any ∨ slotsL L t = τ t
  | [], _, t => .inl rfl
  | (k, v) :: L, h, t => by
    rw [slotsL_cons]
    by_cases e : t = k
    · subst e; rw [if_pos rfl]; exact .inr h.1.symm
    · rw [if_neg e]; exact slotsL_of h.2 t
theorem LeF.slots {C : Ctx} {τ : Nat → V} {H : Heap} {n n' : Nat} {L : List (Nat × V)} (h : holdsL τ L) : LeF C ⟨τ, H, n⟩ ⟨slotsL L, H, n'⟩ := LeF.forget rfl fun t => slotsL_of h t
theorem inlV_mono {vs : List V} {s : SF} {K K' : V → SF → Prop} (hk : ∀ v s', K v s' → K' v s') {x : V} (h : inlV P C vs s K x) : inlV P C vs s K' x := by
  exact inlV_mono0 hk h
theorem inlI_mono {io : Ins} {s : SF} {K K' : V → SF → Prop} (hk : ∀ v s', K v s' → K' v s') (h : inlI P C io s K) : inlI P C io s K' := by
  cases io
  all_goals first | exact (show False from h).elim | exact CallT.mono h hk | exact inlV_mono hk h | exact OpT.mono h hk
theorem seqI_mono {Q Q' : SF → Prop} (hq : ∀ s, Q s → Q' s) : ∀ (l : List IOp) (s : SF), seqI P Φ C Q l s → seqI P Φ C Q' l s
  | [], s, h => hq s h
  | o :: l, s, h => by
    simp only [seqI] at h ⊢
    split
    · rename_i b hw
      rw [hw] at h
      refine ⟨fun hb => ?_, fun hb => seqI_mono hq l _ (h.2 hb)⟩
      have h1 := h.1 hb
      split
      · rename_i v δ he
        rw [he] at h1
        exact seqI_mono hq l _ h1
      · rename_i he
        rw [he] at h1
        exact inlI_mono (fun v s' hh => seqI_mono hq l _ hh) h1
    · rename_i hw
      rw [hw] at h
      exact h
theorem drwI_mono {bef : List Nat} {n0 : Nat} {Q Q' : SF → Prop} (hq : ∀ s, Q s → Q' s) : ∀ (l : List IOp) (i : Nat) (acc : List Rec) (s : SF), drwI P Φ C bef n0 Q l i acc s → drwI P Φ C bef n0 Q' l i acc s
  | [], _, _, s, h => ⟨h.1, hq _ h.2⟩
  | o :: l, i, acc, s, h => by
    simp only [drwI] at h ⊢
    split
    · rename_i b hw
      rw [hw] at h
      refine ⟨fun hb => ?_, fun hb => drwI_mono hq l _ _ _ (h.2 hb)⟩
      have h1 := h.1 hb
      split
      · rename_i v δ he
        rw [he] at h1
        exact drwI_mono hq l _ _ _ h1
      · rename_i he
        rw [he] at h1
        exact ⟨h1.1, h1.2.1, inlI_mono (fun v s' hh => seqI_mono hq l _ hh) h1.2.2⟩
    · rename_i hw
      rw [hw] at h
      exact h
theorem walkI_mono : ∀ {ic : IC} {s : SF} {Q Q' : Exit → SF → Prop}, (∀ e s, Q e s → Q' e s) → walkI P Φ C N K ic s Q → walkI P Φ C N K ic s Q'
  | .skip, s, Q, Q', hq, h => hq _ _ h
  | .exit _, s, Q, Q', hq, h => hq _ _ h
  | .ret, s, Q, Q', hq, h => hq _ _ h
  | .reg ops, s, Q, Q', hq, h => seqI_mono (fun s' hh => hq _ _ hh) ops s h
  | .drw bef ops, s, Q, Q', hq, h => drwI_mono (fun s' hh => hq _ _ hh) ops _ _ s h
  | .seq x y, s, Q, Q', hq, h => walkI_mono (ic := x) (fun e s' hh => by
      cases e with
      | normal => exact walkI_mono (ic := y) hq hh
      | _ => exact hq _ _ hh) h
  | .cond c x y, s, Q, Q', hq, h => by
    simp only [walkI] at h ⊢
    split
    · rename_i t ht
      rw [ht] at h
      exact ⟨fun e => walkI_mono hq (h.1 e), fun e => walkI_mono hq (h.2 e)⟩
    · rename_i hne
      split at h
      · rename_i t ht; exact absurd ht (hne t)
      · exact h
  | .rfn _ _ _ _, s, Q, Q', hq, h => TriI.mono h hq
  | .any _ _, s, Q, Q', hq, h => TriI.mono h hq
  | .block id b, s, Q, Q', hq, h => walkI_mono (ic := b) (fun e s' hh => by
      cases e with
      | exit id' =>
        simp only [inBlockF] at hh ⊢
        split
        · rename_i e; rw [if_pos e] at hh; exact hq _ _ hh
        · rename_i e; rw [if_neg e] at hh; exact hq _ _ hh
      | _ => exact hq _ _ hh) h
  | .loop b, s, Q, Q', hq, h => TriI.mono h hq
  | .scope b, s, Q, Q', hq, h => TriI.mono h hq
theorem TriI.scope (hg : Good P Φ) (K : List Nat) {b : IC} {s : SF} {Q : Exit → SF → Prop} (h : walkI P Φ C N K b s (contI P Φ C N K (noGotoF Q) [])) : TriI P C N (.scope b) s Q :=
  TriI.scope0 hg (walkI_mono (fun e s h => h) h)
theorem updH_over (H : Heap) (i : Nat) (x y : Obj) : updH (updH H i x) i y = updH H i y := by
  funext t
  simp only [updH]
  split <;> rfl
theorem LeF.slotsH {C : Ctx} {τ : Nat → V} {H H' : Heap} {n n' : Nat} {L : List (Nat × V)} (hH : H = H') (h : holdsL τ L) : LeF C ⟨τ, H, n⟩ ⟨slotsL L, H', n'⟩ := hH ▸ LeF.slots h
theorem decode_low {s : ByteArray} {i : Nat} (h : (s.get! i).toNat < 128) : Utf8.decode s i = ((s.get! i).toNat, 1) := by
  unfold Utf8.decode
  simp [h]
theorem decode_high {s : ByteArray} {i : Nat} (h : ¬ (s.get! i).toNat < 128) : 128 ≤ (Utf8.decode s i).1 ∧ 1 ≤ (Utf8.decode s i).2 := by
  unfold Utf8.decode Utf8.runeError
  simp only [Nat.add_zero, if_neg h]
  (repeat' split) <;> simp_all <;> omega
def again (C : Ctx) {α : Type} (st : α → SF) (inv : α → Prop) (ms : α → Nat) (a : α) (s' : SF) : Prop := ∃ a', ms a' < ms a ∧ inv a' ∧ LeF C s' (st a')
def roundR (C : Ctx) {α : Type} (st : α → SF) (inv : α → Prop) (ms : α → Nat) (a : α) (Q : Exit → SF → Prop) : Exit → SF → Prop := andThenF (again C st inv ms a) Q
section
variable {α : Type} (st : α → SF) (inv : α → Prop) (ms : α → Nat) (a : α) (Q : Exit → SF → Prop)
@[go_sem ↓] theorem roundR_normal (s : SF) : roundR C st inv ms a Q .normal s = again C st inv ms a s := nd rfl
@[go_sem ↓] theorem roundR_exit (id : Nat) (s : SF) : roundR C st inv ms a Q (.exit id) s = Q (.exit id) s := nd rfl
@[go_sem ↓] theorem roundR_ret (s : SF) : roundR C st inv ms a Q .ret s = Q .ret s := nd rfl
end
theorem TriI.loopA (hg : Good P Φ) (K : List Nat) {b : IC} {s : SF} {Q : Exit → SF → Prop} {α : Type} (st : α → SF) (inv : α → Prop) (ms : α → Nat) (a0 : α) (h0 : LeF C s (st a0)) (hi : inv a0)
    (round : ∀ a, inv a → walkI P Φ C N K b (st a) (contI P Φ C N K (roundR C st inv ms a Q) [])) : TriI P C N (.loop b) s Q := by
  refine TriI.loop hg (K := K) (fun m s => ∃ a, inv a ∧ ms a = m ∧ s = st a) (m := ms a0) ⟨st a0, h0, a0, hi, rfl, rfl⟩ ?_
  rintro m s ⟨a, ha, rfl, rfl⟩
  have h : walkI P Φ C N K b (st a) (andThenF (again C st inv ms a) Q) := walkI_mono (fun e s h => h) (round a ha)
  refine (walkI_mono ?_ h)
  intro e s' hh
  cases e with
  | normal =>
    obtain ⟨a', h1, h2, h3⟩ := hh
    exact ⟨ms a', st a', h1, h3, a', h2, rfl, rfl⟩
  | _ => exact hh
end Go.Idl
namespace Go.Idl
set_option linter.all false
open Go.RowKit
variable [Laid]
def V.ofCells (ag : Bool) (cs : List V) : V := if ag then .agg cs else cs.headD .any
def ShapeFs (S : TypeId → List V → Prop) : List Field → List V → Prop
  | [], xs => xs = []
  | fd :: fs, xs => ∃ p q, xs = p ++ q ∧ S fd.type p ∧ ShapeFs S fs q
def Shape (P : Program) : Nat → TypeId → List V → Prop
  | 0, _, _ => False
  | f + 1, t, xs => match P.underlying t with
    | some .bool => ∃ b, xs = [.sc (.bool b)]
    | some (.int k) => ∃ n, xs = [.sc (.int k n)] ∧ k.min ≤ n ∧ n ≤ k.max
    | some .string => ∃ s, xs = [.sc (.string s)] ∧ s.size ≤ maxLen
    | some (.slice e) => ∃ es : List (List V), xs = [.slice (P.cellsOf e) (es.map (V.ofCells (aggT P e)))] ∧ es.length ≤ maxLen ∧ ∀ x ∈ es, Shape P f e x
    | some (.struct fs) => ShapeFs (Shape P f) fs.toList xs
    | _ => False
def layoutOk (P : Program) : Nat → List Field → Nat → Bool
  | o, [], n => o == n
  | o, fd :: fs, n => fd.offset == o && layoutOk P (o + P.cellsOf fd.type) fs n
def plainT (P : Program) : Nat → TypeId → Bool
  | 0, _ => false
  | f + 1, t => match P.underlying t with
    | some .bool => true
    | some (.int _) => true
    | some .string => true
    | some (.slice e) => plainT P f e && decide (0 < P.cellsOf e) && (aggT P e || decide (P.cellsOf e = 1))
    | some (.struct fs) => fs.toList.all (fun fd => plainT P f fd.type) && layoutOk P 0 fs.toList (P.cellsOf t)
    | _ => false
theorem mapM_at {α β : Type} {f : α → Option β} : ∀ {l : List α} {ys : List β}, l.mapM f = some ys → ys.length = l.length ∧ ∀ (i : Nat) x y, l[i]? = some x → ys[i]? = some y → f x = some y
  | [], ys, h => by simp at h; subst h; simp
  | a :: l, ys, h => by
    simp only [List.mapM_cons, Option.bind_eq_bind, Option.bind_eq_some_iff, Option.pure_def, Option.some.injEq] at h
    obtain ⟨y, hy, zs, hz, rfl⟩ := h
    obtain ⟨h1, h2⟩ := mapM_at hz
    refine ⟨by simp [h1], fun i x y' hx hy' => ?_⟩
    cases i with
    | zero => simp at hx hy'; subst hx hy'; exact hy
    | succ i => exact h2 i x y' (by simpa using hx) (by simpa using hy')
theorem layoutOk_le {P : Program} : ∀ {fs : List Field} {o n : Nat}, layoutOk P o fs n = true → o ≤ n
  | [], o, n, h => by simp [layoutOk] at h; omega
  | fd :: fs, o, n, h => by
    simp only [layoutOk, Bool.and_eq_true] at h
    have := layoutOk_le h.2
    omega
def RepAll (w : World) (xs : List V) (cs : List Value) : Prop :=
  xs.length = cs.length ∧ ∀ (j : Nat) x u, xs[j]? = some x → cs[j]? = some u → Rep (fun g _ => g < w.heap.size) w noPlaces x u
theorem RepAll.one {w : World} {x : V} {u : Value} (h : Rep (fun g _ => g < w.heap.size) w noPlaces x u) : RepAll w [x] [u] :=
  ⟨rfl, fun j y v hy hv => by
    cases j with
    | zero => simp at hy hv; subst hy hv; exact h
    | succ j => simp at hy⟩
theorem RepAll.append {w : World} {xs ys : List V} {cs ds : List Value} (h1 : RepAll w xs cs) (h2 : RepAll w ys ds) : RepAll w (xs ++ ys) (cs ++ ds) := by
  refine ⟨by simp [h1.1, h2.1], fun j x u hx hu => ?_⟩
  by_cases hj : j < xs.length
  · rw [List.getElem?_append_left hj] at hx
    rw [List.getElem?_append_left (by rw [← h1.1]; exact hj)] at hu
    exact h1.2 j x u hx hu
  · rw [List.getElem?_append_right (by omega)] at hx
    rw [List.getElem?_append_right (by rw [← h1.1]; omega)] at hu
    rw [← h1.1] at hu
    exact h2.2 _ x u hx hu
variable {H : Type} {enc : TypeId × Value → H} {P : Program} {w : World}
theorem cell_lt {a : Addr} {v : Value} (h : w.cell? a = some v) : a.block < w.heap.size ∧ a.spot = none := by
  unfold World.cell? at h
  split at h
  · rename_i hb
    refine ⟨(Array.getElem?_eq_some_iff.1 hb).1, ?_⟩
    split at h
    · cases h
    · rename_i hs; simpa using hs
  · cases h
section
variable {f : Nat} {t : TypeId} {xs : List V}
theorem shape_bool (h : P.underlying t = some .bool) : Shape P (f + 1) t xs = ∃ b, xs = [.sc (.bool b)] := by simp only [Shape, h]
theorem shape_int {k : IntKind} (h : P.underlying t = some (.int k)) : Shape P (f + 1) t xs = ∃ n, xs = [.sc (.int k n)] ∧ k.min ≤ n ∧ n ≤ k.max := by simp only [Shape, h]
theorem shape_string (h : P.underlying t = some .string) : Shape P (f + 1) t xs = ∃ s, xs = [.sc (.string s)] ∧ s.size ≤ maxLen := by simp only [Shape, h]
theorem shape_slice {e : TypeId} (h : P.underlying t = some (.slice e)) : Shape P (f + 1) t xs = ∃ es : List (List V), xs = [.slice (P.cellsOf e) (es.map (V.ofCells (aggT P e)))] ∧ es.length ≤ maxLen ∧ ∀ x ∈ es, Shape P f e x := by simp only [Shape, h]
theorem shape_struct {fs : Array Field} (h : P.underlying t = some (.struct fs)) : Shape P (f + 1) t xs = ShapeFs (Shape P f) fs.toList xs := by simp only [Shape, h]
end
theorem plain_cells (P : Program) {f : Nat} {t : TypeId} (hp : plainT P f t = true) {xs : List V} (hs : Shape P f t xs) (hag : aggT P t = false) : ∃ x, xs = [x] ∧ x.cells = [x] := by
  cases f with
  | zero => simp [plainT] at hp
  | succ f =>
    simp only [plainT] at hp
    unfold aggT at hag
    cases hu : P.underlying t with
    | none => rw [hu] at hp; simp at hp
    | some ty =>
      rw [hu] at hp hag
      cases ty with
      | bool => rw [shape_bool hu] at hs; obtain ⟨b, rfl⟩ := hs; exact ⟨_, rfl, rfl⟩
      | int k => rw [shape_int hu] at hs; obtain ⟨n, rfl, _⟩ := hs; exact ⟨_, rfl, rfl⟩
      | string => rw [shape_string hu] at hs; obtain ⟨s, rfl, _⟩ := hs; exact ⟨_, rfl, rfl⟩
      | slice e => rw [shape_slice hu] at hs; obtain ⟨es, rfl, _⟩ := hs; exact ⟨_, rfl, rfl⟩
      | struct fs => simp at hag
      | _ => simp at hp
theorem ofCells_cells {ag : Bool} {cs : List V} (h : ag = false → ∃ x, cs = [x] ∧ x.cells = [x]) : (V.ofCells ag cs).cells = cs := by
  unfold V.ofCells
  cases ag with
  | true => rfl
  | false =>
    obtain ⟨x, rfl, hx⟩ := h rfl
    simpa using hx
theorem cells_at {a : Addr} {n : Nat} {cs : List Value} (h : w.cells? 0 a n = some cs) : cs.length = n ∧ ∀ j u, cs[j]? = some u → w.cell? (a.add j) = some u := by
  unfold World.cells? at h
  rw [if_pos (Nat.zero_le _)] at h
  obtain ⟨h1, h2⟩ := mapM_at h
  simp at h1
  refine ⟨h1, fun j u hu => ?_⟩
  have hj : j < n := by rw [← h1]; exact (List.getElem?_eq_some_iff.1 hu).1
  exact h2 j j u (by simp [hj]) hu
theorem repAll_agg {t : TypeId} {xs : List V} {cs : List Value} (h : RepAll w xs cs) : Rep (fun g _ => g < w.heap.size) w noPlaces (.agg xs) (.agg cs.toArray) :=
  .agg _ _ _ (by simpa using h.1) fun j c u hc hu => h.2 j c u hc (by simpa using hu)
theorem fields_shape {fuel f : Nat} (ih : ∀ (t : TypeId) (cs : List Value) (d : DataW H) (ps : List MemPlace), DataW.trod enc P w 0 (fun _ => true) true fuel t cs = some (d, ps) → plainT P f t = true →
      cs.length = P.cellsOf t → ∃ xs, RepAll w xs cs ∧ Shape P f t xs) :
    ∀ (fs : List Field) (o : Nat) (cs : List Value) (ys : List (DataW H × List MemPlace)), layoutOk P o fs cs.length = true → fs.all (fun fd => plainT P f fd.type) = true →
      (fs.mapM fun fd => DataW.trod enc P w 0 (fun _ => true) true fuel fd.type ((cs.drop fd.offset).take (P.cellsOf fd.type))) = some ys →
      ∃ xs, RepAll w xs (cs.drop o) ∧ ShapeFs (Shape P f) fs xs
  | [], o, cs, ys, hl, _, _ => by
    simp [layoutOk] at hl
    exact ⟨[], ⟨by simp; omega, by simp⟩, rfl⟩
  | fd :: fs, o, cs, ys, hl, hp, h => by
    simp only [layoutOk, Bool.and_eq_true, beq_iff_eq] at hl
    simp only [List.all_cons, Bool.and_eq_true] at hp
    simp only [List.mapM_cons, Option.bind_eq_bind, Option.bind_eq_some_iff, Option.pure_def, Option.some.injEq] at h
    obtain ⟨⟨d, q⟩, hy, zs, hz, rfl⟩ := h
    obtain ⟨x2, h3, h4⟩ := fields_shape ih fs _ cs zs hl.2 hp.2 hz
    have hle := layoutOk_le hl.2
    obtain ⟨x1, h1, h2⟩ := ih fd.type _ d q hy hp.1 (by rw [hl.1]; simp; omega)
    refine ⟨x1 ++ x2, ?_, x1, x2, rfl, h2, h4⟩
    have e : cs.drop o = (cs.drop fd.offset).take (P.cellsOf fd.type) ++ cs.drop (o + P.cellsOf fd.type) := by
      rw [hl.1, ← List.drop_drop, List.take_append_drop]
    rw [e]
    exact h1.append h3
theorem trod_shape : ∀ (fuel : Nat) (t : TypeId) (cs : List Value) (d : DataW H) (ps : List MemPlace) (f : Nat), DataW.trod enc P w 0 (fun _ => true) true fuel t cs = some (d, ps) → plainT P f t = true →
    ∃ xs, RepAll w xs cs ∧ Shape P f t xs
  | 0, t, cs, d, ps, f, h, _ => by simp [DataW.trod] at h
  | fuel + 1, t, cs, d, ps, 0, h, hp => by simp [plainT] at hp
  | fuel + 1, t, cs, d, ps, f + 1, h, hp => by
    simp only [plainT] at hp
    cases hu : P.underlying t with
    | none => rw [hu] at hp; simp at hp
    | some ty =>
      rw [hu] at hp
      cases ty with
      | bool =>
        simp only [DataW.trod, hu] at h
        simp only [shape_bool hu]
        split at h <;> simp_all
        exact ⟨_, .one (.sc _ _), by simp⟩
      | int k =>
        simp only [DataW.trod, hu] at h
        simp only [shape_int hu]
        split at h <;> simp_all
        refine ⟨_, .one (.sc _ _), _, rfl, ?_⟩
        simpa [Lit.wf] using h.1.2
      | string =>
        simp only [DataW.trod, hu] at h
        simp only [shape_string hu]
        split at h <;> simp_all
        exact ⟨_, .one (.sc _ _), _, rfl, h.1⟩
      | slice e =>
        simp only [Bool.and_eq_true, Bool.or_eq_true, decide_eq_true_eq] at hp
        obtain ⟨⟨hp, h0⟩, hag⟩ := hp
        simp only [shape_slice hu]
        simp only [DataW.trod, hu] at h
        split at h <;> rename_i heq <;> try (cases heq; done)
        · exact ⟨_, .one (.nilslice _ (P.cellsOf e) _ _), [], rfl, by simp, by simp⟩
        · cases heq
          rename_i a len cap
          split at h
          · rename_i hb
            simp only [Option.bind_eq_some_iff, Option.map_eq_some_iff] at h
            obtain ⟨elems, he, rest, hr, _⟩ := h
            obtain ⟨h1, h2⟩ := mapM_at he
            simp at h1
            -- the elements, one by one
            have each : ∀ i : Nat, ∃ (zs : List Value) (xs : List V), i < len → w.cells? 0 (a.add (i * P.cellsOf e)) (P.cellsOf e) = some zs ∧ RepAll w xs zs ∧ Shape P f e xs := by
              intro i
              by_cases hi : i < len
              · have hx := h2 i i elems[i] (by simp [hi]) (by simp [h1, hi])
                rw [Option.bind_eq_some_iff] at hx
                obtain ⟨zs, hz, hd⟩ := hx
                obtain ⟨xs, h3, h4⟩ := trod_shape fuel e zs _ _ f hd hp
                exact ⟨zs, xs, fun _ => ⟨hz, h3, h4⟩⟩
              · exact ⟨[], [], fun h => absurd h hi⟩
            obtain ⟨Z, each⟩ := Classical.axiomOfChoice each
            obtain ⟨X, each⟩ := Classical.axiomOfChoice each
            have hag' : ∀ i, i < len → (V.ofCells (aggT P e) (X i)).cells = X i := fun i hi => by
              refine ofCells_cells fun ha => ?_
              exact plain_cells P hp (each i hi).2.2 ha
            refine ⟨_, .one ?_, (List.range len).map X, rfl, by simp; omega, fun x hx => ?_⟩
            · by_cases hl : len = 0
              · subst hl; exact .nilslice _ _ _ _
              · have hsp : a.spot = none := by
                  obtain ⟨hz, _⟩ := each 0 (by omega)
                  obtain ⟨c1, c2⟩ := cells_at hz
                  have := cell_lt (c2 0 (Z 0)[0] (by simp [c1]))
                  simpa [Addr.add] using this.2
                have ha : a = ⟨a.block, a.off, none⟩ := by cases a; simp at hsp; subst hsp; rfl
                have hr := Rep.slice (I := fun g _ => g < w.heap.size) (w := w) noPlaces (P.cellsOf e) (((List.range len).map X).map (V.ofCells (aggT P e))) a.block a.off cap (fun i j => ((Z i)[j]?).getD undef)
                  (by simp; omega) (fun x hx => by
                    simp at hx
                    obtain ⟨i, hi, rfl⟩ := hx
                    rw [hag' i hi, (each i hi).2.1.1]
                    exact (cells_at (each i hi).1).1)
                  (fun i j hi hj => by
                    simp at hi
                    obtain ⟨c1, c2⟩ := cells_at (each i hi).1
                    have := c2 j (Z i)[j] (by simp [c1, hj])
                    rw [ha] at this
                    rw [addr_add, addr_add] at this
                    have h5 := cell_lt this
                    refine ⟨h5.1, ?_⟩
                    rw [this]
                    simp [c1, hj])
                  (fun i j x c hx hc => by
                    have hi : i < len := by
                      have := (List.getElem?_eq_some_iff.1 hx).1
                      simpa using this
                    simp [hi] at hx
                    subst hx
                    rw [hag' i hi] at hc
                    obtain ⟨hz, hrep, _⟩ := each i hi
                    have hj : j < (Z i).length := by rw [← hrep.1]; exact (List.getElem?_eq_some_iff.1 hc).1
                    refine hrep.2 j c _ hc ?_
                    simp [hj])
                rw [ha]
                simpa using hr
            · simp at hx
              obtain ⟨i, hi, rfl⟩ := hx
              exact (each i hi).2.2
          · cases h
        · cases h
      | struct fs =>
        simp only [Bool.and_eq_true] at hp
        simp only [shape_struct hu]
        simp only [DataW.trod, hu] at h
        split at h
        · rename_i hl
          simp only [Option.map_eq_some_iff] at h
          obtain ⟨ys, hy, _⟩ := h
          have := fields_shape (fuel := fuel) (f := f) (fun t cs d ps h1 h2 _ => trod_shape fuel t cs d ps f h1 h2) fs.toList 0 cs ys (by rw [hl]; exact hp.2) hp.1 hy
          simpa using this
        · cases h
      | _ => simp at hp
end Go.Idl
namespace Go.Idl
set_option linter.all false
open Go.RowKit Go.WideShapes Go.ChangeShapes
variable [Laid]
def ShapeArgs (P : Program) (f : Nat) : List TypeId → List V → Prop
  | [], xs => xs = []
  | t :: ts, xs => ∃ cs ys, xs = V.ofCells (aggT P t) cs :: ys ∧ Shape P f t cs ∧ ShapeArgs P f ts ys
section
variable {H : Type} {enc : TypeId × Value → H} {P : Program}
theorem arg_shape {W : World} {base : Nat} {f : Nat} {t : TypeId} {v : Value} {d : DataW H} {p : List MemPlace} (hv : Value.okWide P W .any base t v) (h : DataW.Trod enc P W 0 (fun _ => true) true t v d p) (hp : plainT P f t = true) :
    ∃ cs, Shape P f t cs ∧ Rep (fun g _ => g < W.heap.size) W noPlaces (V.ofCells (aggT P t) cs) v := by
  obtain ⟨fuel, h⟩ := h
  obtain ⟨xs, h1, h2⟩ := trod_shape fuel t _ d p f h hp
  refine ⟨xs, h2, ?_⟩
  unfold Value.okWide at hv
  cases ha : aggT P t with
  | true =>
    have : ∃ cs, v = .agg cs := by
      unfold aggT at ha
      split at ha <;> rename_i hu
      · rw [hu] at hv; obtain ⟨cs, h, _⟩ := hv; exact ⟨cs, h⟩
      · rw [hu] at hv; obtain ⟨cs, h, _⟩ := hv; exact ⟨cs, h⟩
      · cases ha
    obtain ⟨cs, rfl⟩ := this
    simp only [V.ofCells, if_true]
    have := repAll_agg (t := t) h1
    simpa [Value.cells] using this
  | false =>
    obtain ⟨x, rfl, hx⟩ := plain_cells P hp h2 ha
    have hc : v.cells = #[v] := by
      cases v with
      | agg cs =>
        exfalso
        cases f with
        | zero => simp [plainT] at hp
        | succ f =>
          simp only [plainT] at hp
          unfold aggT at ha
          cases hu : P.underlying t with
          | none => rw [hu] at hp; simp at hp
          | some ty =>
            have key : ∀ d : TypeDesc, P.underlying t = some d → (match d with | .bool => True | .int _ => True | .string => True | .slice _ => True | _ => False) → Cell.okWide P W .any base t (.agg cs) → False := by
              intro d hd hm hc
              unfold Cell.okWide at hc
              rw [hd] at hc
              cases d <;> simp only at hm <;> (simp only [Cell.ok, hd] at hc)
            rw [hu] at hv hp ha
            cases ty <;> first | (exact key _ hu trivial hv) | (cases ha; done) | (cases hp; done)
      | _ => rfl
    have := h1.2 0 x v rfl (by simp [hc])
    simpa [V.ofCells] using this
theorem args_shape {W : World} {base : Nat} {f : Nat} : ∀ (ts : List TypeId) (vs : List Value) (ds : List (DataW H)) (p : List MemPlace),
    (∀ (j : Nat) t v, ts[j]? = some t → vs[j]? = some v → Value.okWide P W .any base t v) → DataW.TrodAll enc P W 0 (fun _ => true) true ts vs ds p → ts.all (plainT P f) = true →
    ∃ xs, xs.length = vs.length ∧ (∀ (j : Nat) x u, xs[j]? = some x → vs[j]? = some u → Rep (fun g _ => g < W.heap.size) W noPlaces x u) ∧ ShapeArgs P f ts xs ∧ ds.length = ts.length
  | [], [], [], _, _, _, _ => ⟨[], rfl, by simp, rfl, rfl⟩
  | t :: ts, v :: vs, d :: ds, p, hv, h, hp => by
    obtain ⟨p1, p2, h1, h2, rfl⟩ := h
    simp only [List.all_cons, Bool.and_eq_true] at hp
    obtain ⟨cs, hs, hr⟩ := arg_shape (hv 0 t v rfl rfl) h1 hp.1
    obtain ⟨xs, k1, k2, k3, k4⟩ := args_shape ts vs ds p2 (fun j t' v' h1 h2 => hv (j + 1) t' v' (by simpa using h1) (by simpa using h2)) h2 hp.2
    refine ⟨V.ofCells (aggT P t) cs :: xs, by simp [k1], fun j x u hx hu => ?_, ⟨cs, xs, rfl, hs, k3⟩, by simp [k4]⟩
    cases j with
    | zero => simp at hx hu; subst hx hu; exact hr
    | succ j => exact k2 j x u (by simpa using hx) (by simpa using hu)
  | [], _ :: _, _, _, _, h, _ => by simp [DataW.TrodAll] at h
  | [], [], _ :: _, _, _, h, _ => by simp [DataW.TrodAll] at h
  | _ :: _, [], _, _, _, h, _ => by simp [DataW.TrodAll] at h
  | _ :: _, _ :: _, [], _, _, h, _ => by simp [DataW.TrodAll] at h
theorem trodAll_stays (hl : laidOutB P = true) {W W' : World} {sp : Nat → Bool} (hb : Below W.heap.size W W') : ∀ (ts : List TypeId) (vs : List Value) (ds : List (DataW H)) (p : List MemPlace),
    ts.all (fun t => P.readableRec t && decide (t < P.types.size)) = true → DataW.TrodAll enc P W 0 (fun _ => true) true ts vs ds p → (∀ x ∈ p, x.block < W.heap.size ∧ sp x.block = true) →
    DataW.TrodAll enc P W' 0 sp true ts vs ds p
  | [], [], [], _, _, h, _ => h
  | t :: ts, v :: vs, d :: ds, p, hr, h, hsp => by
    obtain ⟨p1, p2, h1, h2, rfl⟩ := h
    simp only [List.all_cons, Bool.and_eq_true, decide_eq_true_eq] at hr
    refine ⟨p1, p2, ?_, trodAll_stays hl hb ts vs ds p2 hr.2 h2 (fun x hx => hsp x (by simp [hx])), rfl⟩
    exact WideElems.Trod_stays hl hr.1.1 hr.1.2 h1 (fun x hx => hb.same (hsp x (by simp [hx])).1) (fun x hx => (hsp x (by simp [hx])).2)
  | [], _ :: _, _, _, _, h, _ => by simp [DataW.TrodAll] at h
  | [], [], _ :: _, _, _, h, _ => by simp [DataW.TrodAll] at h
  | _ :: _, [], _, _, _, h, _ => by simp [DataW.TrodAll] at h
  | _ :: _, _ :: _, [], _, _, h, _ => by simp [DataW.TrodAll] at h
theorem post_of_below {f : Func} {s : ChangeSpec} {apart fresh handsOn again : Bool} {W W' : World} {args : Array Value} {v : Value} {ds gs : List (DataW H)} {before pa pv : List MemPlace}
    (hW : DataW.Whole enc P f.params.toList s.vars apart W args.toList ds gs before)
    (hres : ∀ (b : Nat) (sp : Nat → Bool) (hd : Bool), DataW.TrodAll enc P W' b sp hd f.resultTypes.toList (v.resultList f.resultTypes.size) (s.fn H (ds ++ gs)).results [])
    (hargs : ∀ sp : Nat → Bool, (∀ p ∈ before, sp p.block = true) → DataW.TrodAll enc P W' 0 sp true f.params.toList args.toList (s.fn H (ds ++ gs)).args pa)
    (hvars : ∀ sp : Nat → Bool, (∀ p ∈ before, sp p.block = true) → DataW.TrodVars enc P W' sp s.vars (s.fn H (ds ++ gs)).vars pv)
    (hps : before = pa ++ pv) (hb : Below W.heap.size W W')
    (hok : ∀ (j : Nat) (t : TypeId) (r : Value), f.resultTypes[j]? = some t → (v.resultList f.resultTypes.size)[j]? = some r → Value.okWide P W' .any 0 t r) :
    s.post enc P f apart fresh handsOn again W args v W' := by
  have hlt : ∀ p ∈ before, p.block < W.heap.size := fun p hp => hW.lt p hp
  have hold : ∀ p ∈ before, (fun b => decide (b < W.heap.size)) p.block = true := fun p hp => by simpa using hlt p hp
  refine ⟨ds, gs, before, [], pa, pv, hW, hres _ _ _, hargs _ hold, hvars _ hold, World.keptBut_mono (fun p hp => ⟨hp, ?_⟩) (hb.frame (· ∈ before)), fun _ => ?_⟩
  · rw [hps, List.mem_append] at hp
    exact Or.inr hp
  · obtain ⟨_, _, _, _, _, hz, hn⟩ := hW
    refine ⟨hok, _, _, ([] ++ pa) ++ pv, ⟨[] ++ pa, pv, trodAll_append (hargs _ (fun _ _ => rfl)) (hres _ _ _), hvars _ (fun _ _ => rfl), rfl, ?_, ?_⟩, ?_⟩
    · intro b off hp
      have hin : MemPlace.cell b off ∈ before := by rw [hps]; simpa using hp
      rw [hb.frozen (hlt _ hin)]
      exact hz b off hin
    · intro ha
      have := hn ha
      rw [hps] at this
      simpa using this
    · intro p hp _
      rw [hps]
      simpa using hp
theorem law_calls {f : FuncId} {fn : Func} {s : ChangeSpec} {apart fresh handsOn again : Bool} {tb : TypeId} {n : Nat} {F : List V → Option V} (hsv : s.vars = [])
    (hs : ∀ ds : List (DataW H), ds.length = fn.params.toList.length → s.fn H ds = { results := [.lit (.bool true)], args := ds }) (hrt : fn.resultTypes = #[tb]) (htb : P.underlying tb = some .bool) (hl : laidOutB P = true)
    (hr : fn.params.toList.all (fun t => P.readableRec t && decide (t < P.types.size)) = true) (hp : fn.params.toList.all (plainT P n) = true) (con : Contract P f F)
    {W : World} {base : Nat} {args : Array Value} {ds gs : List (DataW H)} {before : List MemPlace}
    (hval : ∀ (j : Nat) t v, fn.params[j]? = some t → args[j]? = some v → Value.okWide P W .any base t v)
    (hW : DataW.Whole enc P fn.params.toList s.vars apart W args.toList ds gs before)
    (hF : ∀ xs, ShapeArgs P n fn.params.toList xs → F xs = some (.sc (.bool true))) (hL : Laid.ok W := by trivial) :
    Calls P f args W fun e W' => ∃ v, e = .returned v ∧ s.post enc P fn apart fresh handsOn again W args v W' := by
  have hW' := hW
  obtain ⟨p, q, hA, hV, rfl, _, _⟩ := hW
  rw [hsv] at hV
  have hg : gs = [] ∧ q = [] := by
    cases gs with
    | nil => exact ⟨rfl, hV⟩
    | cons => simp [DataW.TrodVars] at hV
  obtain ⟨rfl, rfl⟩ := hg
  obtain ⟨xs, h1, h2, h3, h4⟩ := args_shape (f := n) _ _ _ _ (fun j t v ht hv => hval j t v (by simpa using ht) (by simpa using hv)) hA hp
  refine (con (fun g _ => g < W.heap.size) W args xs _ (by simpa using h1) (fun j x u hx hu => h2 j x u hx (by simpa using hu)) (fun _ _ h => h) hL (hF xs h3)).mono ?_
  rintro e W' ⟨u, rfl, hb, hr'⟩
  have hu := hr'.sc_eq
  subst hu
  have hb := hb.below
  have hsf := hs ds h4
  refine ⟨_, rfl, ?_⟩
  refine post_of_below (pa := p) (pv := []) hW' (fun b sp hd => ?_) (fun sp hsp => ?_) (fun sp _ => ?_) rfl hb (ok_one hrt rfl (okWide_bool_mk htb _))
  · rw [List.append_nil, hsf, hrt]
    exact trodAll_mk1 (shut_bool htb true)
  · rw [List.append_nil, hsf]
    exact trodAll_stays hl hb _ _ _ _ hr hA fun x hx => ⟨hW'.lt x (by simpa using hx), hsp x (by simpa using hx)⟩
  · rw [List.append_nil, hsf, hsv]
    rfl
end
end Go.Idl
namespace Go.Idl
set_option linter.all false
open Go.RowKit
variable [Laid]
attribute [go_sem] List.take_succ_cons List.take_zero List.drop_zero List.drop_succ_cons List.set_cons_zero List.set_cons_succ splice
def fstO : Option (V × List (Nat × Obj)) → Option V
  | some p => some p.1
  | none => none
@[congr] theorem fstO_congr {x x' : Option (V × List (Nat × Obj))} (h : x = x') : fstO x = fstO x' := by rw [h]
@[go_sem ↓] theorem fstO_some (v : V) (δ : List (Nat × Obj)) : fstO (some (v, δ)) = some v := nd rfl
theorem resOne_cell {P : Program} {t : TypeId} {ag : Option Nat} (h : agOf P t = some ag) (τ : Nat → V) (H : Heap) (n : Nat) (x : Nat) : resOneF P ⟨τ, H, n⟩ (.cell x t) = fstO (loadI ag H (τ x)) := by
  simp only [resOneF]
  generalize τ x = v
  have hr : ∀ (cs : List V) (off : Nat), readC P t cs off = fstO ((readI ag cs off).map (·, ([] : List (Nat × Obj)))) := fun cs off => by
    rw [readI_eq h]; cases readI ag cs off <;> rfl
  cases v with
  | ref id idx off =>
    simp only [evLoad, loadI, loadO]
    generalize H id = ob
    cases ob with
    | live sz es mu =>
      simp only
      cases es[idx]? with
      | none => rfl
      | some e => exact hr _ _
    | _ => rfl
  | elem e off => simp only [evLoad, loadI]; exact hr _ _
  | _ => rfl
def consO {α : Type} : Option α → Option (List α) → Option (List α)
  | some a, some l => some (a :: l)
  | _, _ => none
@[go_sem ↓] theorem consO_some {α : Type} (a : α) (l : List α) : consO (some a) (some l) = some (a :: l) := nd rfl
def packR : Option (List V) → Option V
  | some [x] => some x
  | some ys => some (.tup ys)
  | none => none
def packO (H : Heap) : Option (List V) → Option V
  | some xs => packR (freezesR H xs)
  | none => none
@[congr] theorem packR_congr {x x' : Option (List V)} (h : x = x') : packR x = packR x' := by rw [h]
@[congr] theorem packO_congr {H : Heap} {x x' : Option (List V)} (h : x = x') : packO H x = packO H x' := by rw [h]
@[go_sem ↓] theorem packR_1 (x : V) : packR (some [x]) = some x := nd rfl
@[go_sem ↓] theorem packR_2 (x y : V) (zs : List V) : packR (some (x :: y :: zs)) = some (.tup (x :: y :: zs)) := nd rfl
@[go_sem ↓] theorem packO_some (H : Heap) (xs : List V) : packO H (some xs) = packR (freezesR H xs) := nd rfl
theorem resF_pack (P : Program) (rs : List ResultVar) (τ : Nat → V) (H : Heap) (n : Nat) : resF P rs ⟨τ, H, n⟩ = packO H (resLF P ⟨τ, H, n⟩ rs) := by
  unfold resF
  cases resLF P ⟨τ, H, n⟩ rs with
  | none => rfl
  | some xs =>
    simp only [Option.bind_some, packO]
    cases freezesR H xs with
    | none => rfl
    | some ys =>
      match ys with
      | [] => rfl
      | [x] => rfl
      | x :: y :: zs => rfl
@[go_sem ↓] theorem resF_cell (P : Program) (x : Nat) (t : TypeId) (rs : List ResultVar) (τ : Nat → V) (H : Heap) (n : Nat) : resF P (.cell x t :: rs) ⟨τ, H, n⟩ = packO H (resLF P ⟨τ, H, n⟩ (.cell x t :: rs)) := resF_pack ..
@[go_sem ↓] theorem resLF_nil (P : Program) (s : SF) : resLF P s [] = some [] := nd rfl
@[go_sem ↓] theorem resLF_tmp (P : Program) (t : Nat) (rs : List ResultVar) (τ : Nat → V) (H : Heap) (n : Nat) : resLF P ⟨τ, H, n⟩ (.tmp t :: rs) = consO (some (τ t)) (resLF P ⟨τ, H, n⟩ rs) := by
  simp only [resLF, resOneF]
  cases resLF P ⟨τ, H, n⟩ rs <;> rfl
@[go_sem] theorem resLF_cell {P : Program} {t : TypeId} {ag : Option Nat} (h : agOf P t = some ag) (x : Nat) (rs : List ResultVar) (τ : Nat → V) (H : Heap) (n : Nat) :
    resLF P ⟨τ, H, n⟩ (.cell x t :: rs) = consO (fstO (loadI ag H (τ x))) (resLF P ⟨τ, H, n⟩ rs) := by
  simp only [resLF, resOne_cell h]
  cases fstO (loadI ag H (τ x)) <;> cases resLF P ⟨τ, H, n⟩ rs <;> rfl
def LeV (v v' : V) : Prop := ∀ (I : Imm) (w : World) (u : Value), Rep I w noPlaces v u → Rep I w noPlaces v' u
theorem LeV.refl (v : V) : LeV v v := fun _ _ _ h => h
def LeL (cs cs' : List V) : Prop := cs.length = cs'.length ∧ ∀ (j : Nat) c c', cs[j]? = some c → cs'[j]? = some c' → LeV c c'
def LeC (v v' : V) : Prop := (∃ cs cs', v = .agg cs ∧ v' = .agg cs' ∧ LeL cs cs') ∨ (v.cells = [v] ∧ v'.cells = [v'] ∧ LeV v v')
theorem LeL.nil : LeL [] [] := ⟨rfl, by simp⟩
theorem LeL.cons {c c' : V} {cs cs' : List V} (h : LeV c c') (hs : LeL cs cs') : LeL (c :: cs) (c' :: cs') :=
  ⟨by simp [hs.1], fun j x y hx hy => by
    cases j with
    | zero => simp at hx hy; subst hx hy; exact h
    | succ j => exact hs.2 j x y (by simpa using hx) (by simpa using hy)⟩
theorem LeC.le {v v' : V} (h : LeC v v') : LeV v v' := by
  rcases h with ⟨cs, cs', rfl, rfl, hl⟩ | ⟨_, _, h⟩
  · intro I w u hr
    cases hr with
    | agg _ _ vs hlen hh =>
      refine .agg _ _ _ (hl.1 ▸ hlen) fun j c u hc hu => ?_
      have hj : j < cs.length := by rw [hl.1]; exact (List.getElem?_eq_some_iff.1 hc).1
      exact hl.2 j cs[j] c (by simp) hc I w u (hh j cs[j] u (by simp) hu)
  · exact h
theorem LeC.cells {v v' : V} (h : LeC v v') : LeL v.cells v'.cells := by
  rcases h with ⟨cs, cs', rfl, rfl, hl⟩ | ⟨h1, h2, h⟩
  · exact hl
  · rw [h1, h2]; exact .cons h .nil
theorem LeC.one {v v' : V} (h1 : v.cells = [v]) (h2 : v'.cells = [v']) (h : LeV v v') : LeC v v' := .inr ⟨h1, h2, h⟩
theorem LeC.agg {cs cs' : List V} (h : LeL cs cs') : LeC (.agg cs) (.agg cs') := .inl ⟨cs, cs', rfl, rfl, h⟩
class Cod (α : Type) where
  enc : α → V
  dec : V → Option α
  sz : Nat
  len : ∀ a, (enc a).cells.length = sz
  dec_enc : ∀ a, dec (enc a) = some a
  le : ∀ v a, dec v = some a → LeC v (enc a)
class CodR (α : Type) where
  encR : α → V
  decR : V → Option α
  leR : ∀ v a, decR v = some a → LeV v (encR a)
instance instR (α : Type) [Cod α] : CodR α where
  encR := Cod.enc
  decR := Cod.dec
  leR := fun v a h => (Cod.le v a h).le
@[go_sem ↓] theorem encR_enc {α : Type} [Cod α] (a : α) : CodR.encR a = Cod.enc a := nd rfl
@[go_sem ↓] theorem decR_dec {α : Type} [Cod α] (v : V) : (CodR.decR v : Option α) = Cod.dec v := nd rfl
def dec2 {α β : Type} : Option α → Option β → Option (α × β)
  | some a, some b => some (a, b)
  | _, _ => none
def dec3 {α β γ : Type} : Option α → Option β → Option γ → Option (α × β × γ)
  | some a, some b, some c => some (a, b, c)
  | _, _, _ => none
@[go_sem ↓] theorem dec2_some {α β : Type} (a : α) (b : β) : dec2 (some a) (some b) = some (a, b) := nd rfl
@[go_sem ↓] theorem dec3_some {α β γ : Type} (a : α) (b : β) (c : γ) : dec3 (some a) (some b) (some c) = some (a, b, c) := nd rfl
theorem LeV.tup {cs cs' : List V} (hl : LeL cs cs') : LeV (.tup cs) (.tup cs') := by
  intro I w u hr
  cases hr with
  | tup _ _ vs hlen hh =>
    refine .tup _ _ _ (hl.1 ▸ hlen) fun j c u hc hu => ?_
    have hj : j < cs.length := by rw [hl.1]; exact (List.getElem?_eq_some_iff.1 hc).1
    exact hl.2 j cs[j] c (by simp) hc I w u (hh j cs[j] u (by simp) hu)
def decP2 {α β : Type} [Cod α] [Cod β] : V → Option (α × β)
  | .tup [x, y] => dec2 (Cod.dec x) (Cod.dec y)
  | _ => none
def decP3 {α β γ : Type} [Cod α] [Cod β] [Cod γ] : V → Option (α × β × γ)
  | .tup [x, y, z] => dec3 (Cod.dec x) (Cod.dec y) (Cod.dec z)
  | _ => none
instance inst2 (α β : Type) [Cod α] [Cod β] : CodR (α × β) where
  encR := fun p => .tup [Cod.enc p.1, Cod.enc p.2]
  decR := decP2
  leR := fun v p h => by
    unfold decP2 at h
    split at h
    · rename_i x y
      cases hx : (Cod.dec x : Option α) with
      | none => simp [hx, dec2] at h
      | some a =>
        cases hy : (Cod.dec y : Option β) with
        | none => simp [hx, hy, dec2] at h
        | some b =>
          rw [hx, hy] at h
          cases h
          exact .tup (.cons (Cod.le _ _ hx).le (.cons (Cod.le _ _ hy).le .nil))
    · cases h
instance inst3 (α β γ : Type) [Cod α] [Cod β] [Cod γ] : CodR (α × β × γ) where
  encR := fun p => .tup [Cod.enc p.1, Cod.enc p.2.1, Cod.enc p.2.2]
  decR := decP3
  leR := fun v p h => by
    unfold decP3 at h
    split at h
    · rename_i x y z
      cases hx : (Cod.dec x : Option α) with
      | none => simp [hx, dec3] at h
      | some a =>
        cases hy : (Cod.dec y : Option β) with
        | none => simp [hx, hy, dec3] at h
        | some b =>
          cases hz : (Cod.dec z : Option γ) with
          | none => simp [hx, hy, hz, dec3] at h
          | some c =>
            rw [hx, hy, hz] at h
            cases h
            exact .tup (.cons (Cod.le _ _ hx).le (.cons (Cod.le _ _ hy).le (.cons (Cod.le _ _ hz).le .nil)))
    · cases h
@[go_sem ↓] theorem encR_2 {α β : Type} [Cod α] [Cod β] (p : α × β) : CodR.encR p = .tup [Cod.enc p.1, Cod.enc p.2] := nd rfl
@[go_sem ↓] theorem encR_3 {α β γ : Type} [Cod α] [Cod β] [Cod γ] (p : α × β × γ) : CodR.encR p = .tup [Cod.enc p.1, Cod.enc p.2.1, Cod.enc p.2.2] := nd rfl
@[go_sem ↓] theorem decR_2 {α β : Type} [Cod α] [Cod β] (x y : V) : (CodR.decR (.tup [x, y]) : Option (α × β)) = dec2 (Cod.dec x) (Cod.dec y) := nd rfl
@[go_sem ↓] theorem decR_3 {α β γ : Type} [Cod α] [Cod β] [Cod γ] (x y z : V) : (CodR.decR (.tup [x, y, z]) : Option (α × β × γ)) = dec3 (Cod.dec x) (Cod.dec y) (Cod.dec z) := nd rfl
instance : Cod Int where
  enc := fun n => .sc (.int .i64 n)
  dec := fun | .sc (.int .i64 n) => some n | _ => none
  sz := 1
  len := fun _ => rfl
  dec_enc := fun _ => rfl
  le := fun v a h => by
    split at h
    · cases h; exact .one rfl rfl (.refl _)
    · cases h
@[go_sem ↓] theorem enc_int (n : Int) : Cod.enc n = .sc (.int .i64 n) := nd rfl
@[go_sem ↓] theorem dec_int (n : Int) : (Cod.dec (.sc (.int .i64 n)) : Option Int) = some n := nd rfl
instance : Cod Bool where
  enc := fun n => .sc (.bool n)
  dec := fun | .sc (.bool n) => some n | _ => none
  sz := 1
  len := fun _ => rfl
  dec_enc := fun _ => rfl
  le := fun v a h => by
    split at h
    · cases h; exact .one rfl rfl (.refl _)
    · cases h
@[go_sem ↓] theorem enc_bool (n : Bool) : Cod.enc n = .sc (.bool n) := nd rfl
@[go_sem ↓] theorem dec_bool (n : Bool) : (Cod.dec (.sc (.bool n)) : Option Bool) = some n := nd rfl
instance : Cod ByteArray where
  enc := fun n => .sc (.string n)
  dec := fun | .sc (.string n) => some n | _ => none
  sz := 1
  len := fun _ => rfl
  dec_enc := fun _ => rfl
  le := fun v a h => by
    split at h
    · cases h; exact .one rfl rfl (.refl _)
    · cases h
@[go_sem ↓] theorem enc_str (n : ByteArray) : Cod.enc n = .sc (.string n) := nd rfl
@[go_sem ↓] theorem dec_str (n : ByteArray) : (Cod.dec (.sc (.string n)) : Option ByteArray) = some n := nd rfl
def KInt (k : IntKind) : Type := { n : Int // k.min ≤ n ∧ n ≤ k.max }
def decK (k : IntKind) : V → Option (KInt k)
  | .sc (.int k' n) => if h : k' = k ∧ k.min ≤ n ∧ n ≤ k.max then some ⟨n, h.2⟩ else none
  | _ => none
instance (k : IntKind) : Cod (KInt k) where
  enc := fun n => .sc (.int k n.1)
  dec := decK k
  sz := 1
  len := fun _ => rfl
  dec_enc := fun a => by simp [decK, a.2]; rfl
  le := fun v a h => by
    unfold decK at h
    split at h
    · split at h
      · rename_i hh; cases h; cases hh.1; exact .one rfl rfl (.refl _)
      · cases h
    · cases h
@[go_sem ↓] theorem enc_k (k : IntKind) (n : KInt k) : Cod.enc n = .sc (.int k n.1) := nd rfl
def decL {α : Type} (dec : V → Option α) : List V → Option (List α)
  | [] => some []
  | v :: vs => match dec v, decL dec vs with
    | some a, some l => some (a :: l)
    | _, _ => none
theorem decL_enc {α : Type} {dec : V → Option α} {enc : α → V} (h : ∀ a, dec (enc a) = some a) (l : List α) : decL dec (l.map enc) = some l := by
  induction l with
  | nil => rfl
  | cons a l ih => simp [decL, h, ih]
theorem decL_cons {α : Type} {dec : V → Option α} {v : V} {vs : List V} {l : List α} (h : decL dec (v :: vs) = some l) : ∃ a l', dec v = some a ∧ decL dec vs = some l' ∧ l = a :: l' := by
  simp only [decL] at h
  split at h
  · rename_i a l' h1 h2; cases h; exact ⟨a, l', h1, h2, rfl⟩
  · cases h
theorem decL_get {α : Type} {dec : V → Option α} : ∀ {vs : List V} {l : List α}, decL dec vs = some l → vs.length = l.length ∧ ∀ (j : Nat) v a, vs[j]? = some v → l[j]? = some a → dec v = some a
  | [], l, h => by simp [decL] at h; subst h; simp
  | v :: vs, l, h => by
    obtain ⟨a, l', h1, h2, rfl⟩ := decL_cons h
    obtain ⟨h3, h4⟩ := decL_get h2
    refine ⟨by simp [h3], fun j x y hx hy => ?_⟩
    cases j with
    | zero => simp at hx hy; subst hx hy; exact h1
    | succ j => exact h4 j x y (by simpa using hx) (by simpa using hy)
def decS {α : Type} [Cod α] : V → Option (List α)
  | .slice s es => if s = Cod.sz α ∨ es = [] then decL Cod.dec es else none
  | .mt => some []
  | .sc (.slice none 0 0) => some []
  | _ => none
instance (α : Type) [Cod α] : Cod (List α) where
  enc := fun l => .slice (Cod.sz α) (l.map Cod.enc)
  dec := decS
  sz := 1
  len := fun _ => rfl
  dec_enc := fun l => by simp [decS, decL_enc Cod.dec_enc]
  le := fun v l h => by
    unfold decS at h
    split at h
    · rename_i s es
      split at h
      · rename_i hs
        refine .one rfl rfl fun I w u hr => ?_
        obtain ⟨h1, h2⟩ := decL_get h
        cases hr with
        | nilslice =>
          have : l = [] := by
            cases l with
            | nil => rfl
            | cons => simp at h1
          subst this
          exact .nilslice _ _ _ _
        | slice _ _ _ g o cap f hcap hsz hc hh =>
          rcases hs with rfl | rfl
          · rw [h1, show l.length = (l.map (Cod.enc (α := α))).length by simp]
            refine .slice _ _ _ g o cap f (by simpa [← h1] using hcap) (fun e he => ?_) (fun i j hi hj => hc i j (by simpa [h1] using hi) hj) fun i j e c he hj => ?_
            · simp at he
              obtain ⟨a, _, rfl⟩ := he
              exact Cod.len a
            · simp at he
              obtain ⟨a, ha, rfl⟩ := he
              have hi : i < es.length := by rw [h1]; exact (List.getElem?_eq_some_iff.1 ha).1
              have hd := h2 i es[i] a (by simp) ha
              have hle := (Cod.le _ _ hd).cells
              have hj' : j < es[i].cells.length := by rw [hle.1]; exact (List.getElem?_eq_some_iff.1 hj).1
              exact hle.2 j es[i].cells[j] c (by simp) hj I w _ (hh i j es[i] es[i].cells[j] (by simp) (by simp))
          · have : l = [] := by
              cases l with
              | nil => rfl
              | cons => simp at h1
            subst this
            exact .nilslice _ _ _ _
      · cases h
    · cases h
      refine .one rfl rfl fun I w u hr => ?_
      cases hr
      exact .nilslice _ _ _ _
    · cases h
      refine .one rfl rfl fun I w u hr => ?_
      cases hr
      exact .nilslice _ _ _ _
    · cases h
@[go_sem ↓] theorem enc_list {α : Type} [Cod α] (l : List α) : Cod.enc l = .slice (Cod.sz α) (l.map Cod.enc) := nd rfl
@[go_sem] theorem dec_slice {α : Type} [Cod α] {s : Nat} (h : Cod.sz α = s) (es : List V) : (Cod.dec (.slice s es) : Option (List α)) = decL Cod.dec es := by show decS _ = _; simp [decS, h]
@[go_sem ↓] theorem dec_nil {α : Type} [Cod α] (s : Nat) : (Cod.dec (.slice s []) : Option (List α)) = some [] := by show decS _ = _; simp [decS, decL]
@[go_sem ↓] theorem dec_nilc {α : Type} [Cod α] : (Cod.dec (.sc (.slice none 0 0)) : Option (List α)) = some [] := nd rfl
@[go_sem ↓] theorem decL_nil' {α : Type} (dec : V → Option α) : decL dec [] = some [] := nd rfl
@[go_sem] theorem decL_map {α : Type} [Cod α] (l : List α) : decL Cod.dec (l.map Cod.enc) = some l := decL_enc Cod.dec_enc l
@[go_sem ↓] theorem decL_cons' {α : Type} (dec : V → Option α) (v : V) (vs : List V) : decL dec (v :: vs) = consO (dec v) (decL dec vs) := by
  simp only [decL]
  cases dec v <;> cases decL dec vs <;> rfl
@[go_sem ↓] theorem sz_int : Cod.sz Int = 1 := nd rfl
@[go_sem ↓] theorem sz_list (α : Type) [Cod α] : Cod.sz (List α) = 1 := nd rfl
def bO {α β : Type} (x : Option α) (f : α → Option β) : Option β := x.bind f
@[congr] theorem bO_congr {α β : Type} {x x' : Option α} {f : α → Option β} (h : x = x') : bO x f = bO x' f := by rw [h]
@[go_sem ↓] theorem bO_some {α β : Type} (a : α) (f : α → Option β) : bO (some a) f = f a := nd rfl
theorem bO_eq {α β : Type} {x : Option α} {f : α → Option β} {b : β} : bO x f = some b ↔ ∃ a, x = some a ∧ f a = some b := Option.bind_eq_some_iff
theorem LeL.app {a b c d : List V} (h1 : LeL a b) (h2 : LeL c d) : LeL (a ++ c) (b ++ d) := by
  refine ⟨by simp [h1.1, h2.1], fun j x u hx hu => ?_⟩
  by_cases hj : j < a.length
  · rw [List.getElem?_append_left hj] at hx
    rw [List.getElem?_append_left (by rw [← h1.1]; exact hj)] at hu
    exact h1.2 j x u hx hu
  · rw [List.getElem?_append_right (by omega)] at hx
    rw [List.getElem?_append_right (by rw [← h1.1]; omega)] at hu
    rw [← h1.1] at hu
    exact h2.2 _ x u hx hu
def okI (a : Int) : Prop := -9223372036854775808 ≤ a ∧ a ≤ 9223372036854775807
def okS (a : ByteArray) : Prop := a.size ≤ 9223372036854775807
def okL {α : Type} (ok : α → Prop) (l : List α) : Prop := l.length ≤ 9223372036854775807 ∧ ∀ a ∈ l, ok a
class CodA (τ : Type) where
  encA : τ → List V
  decA : List V → Option τ
  ar : Nat
  leA : ∀ vs t, decA vs = some t → LeL vs (encA t)
  arA : ∀ t, (encA t).length = ar
instance : CodA Unit where
  encA := fun _ => []
  decA := fun | [] => some () | _ => none
  ar := 0
  leA := fun vs t h => by
    split at h
    · exact .nil
    · cases h
  arA := fun _ => rfl
def decA2 {α τ : Type} [Cod α] [CodA τ] : List V → Option (α × τ)
  | v :: vs => dec2 (Cod.dec v) (CodA.decA vs)
  | _ => none
instance (α τ : Type) [Cod α] [CodA τ] : CodA (α × τ) where
  encA := fun p => Cod.enc p.1 :: CodA.encA p.2
  decA := decA2
  ar := CodA.ar τ + 1
  leA := fun vs p h => by
    unfold decA2 at h
    split at h
    · rename_i v vs
      cases hx : (Cod.dec v : Option α) with
      | none => simp [hx, dec2] at h
      | some a =>
        cases hy : (CodA.decA vs : Option τ) with
        | none => simp [hx, hy, dec2] at h
        | some b =>
          rw [hx, hy] at h
          cases h
          exact .cons (Cod.le _ _ hx).le (CodA.leA _ _ hy)
    · cases h
  arA := fun p => by simp [CodA.arA]
@[go_sem ↓] theorem encA_unit (u : Unit) : CodA.encA u = [] := nd rfl
@[go_sem ↓] theorem encA_cons {α τ : Type} [Cod α] [CodA τ] (a : α) (t : τ) : CodA.encA (a, t) = Cod.enc a :: CodA.encA t := nd rfl
@[go_sem ↓] theorem decA_unit : (CodA.decA [] : Option Unit) = some () := nd rfl
@[go_sem ↓] theorem decA_cons {α τ : Type} [Cod α] [CodA τ] (v : V) (vs : List V) : (CodA.decA (v :: vs) : Option (α × τ)) = dec2 (Cod.dec v) (CodA.decA vs) := nd rfl
def FTc {γ : Type} [CodR γ] : Option γ → Option V
  | some r => some (CodR.encR r)
  | none => none
def FTb {τ γ : Type} [CodR γ] (g : τ → Option γ) : Option τ → Option V
  | some t => FTc (g t)
  | none => none
def FT {τ γ : Type} [CodA τ] [CodR γ] (g : τ → Option γ) (xs : List V) : Option V := FTb g (CodA.decA xs)
@[go_sem ↓] theorem FT_at {τ γ : Type} [CodA τ] [CodR γ] (g : τ → Option γ) (xs : List V) : FT g xs = FTb g (CodA.decA xs) := nd rfl
@[go_sem ↓] theorem FTb_some {τ γ : Type} [CodR γ] (g : τ → Option γ) (t : τ) : FTb g (some t) = FTc (g t) := nd rfl
@[go_sem ↓] theorem FTc_some {γ : Type} [CodR γ] (r : γ) : FTc (some r) = some (CodR.encR r) := nd rfl
@[congr] theorem FTb_congr {τ γ : Type} [CodR γ] {g : τ → Option γ} {x x' : Option τ} (h : x = x') : FTb g x = FTb g x' := by rw [h]
def endT {γ : Type} [CodR γ] (r : γ) : Option V → Prop
  | some v => CodR.decR v = some r
  | none => False
@[go_sem ↓] theorem endT_some {γ : Type} [CodR γ] (r : γ) (v : V) : endT r (some v) = (CodR.decR v = some r) := nd rfl
@[congr] theorem endT_congr {γ : Type} [CodR γ] {r : γ} {x x' : Option V} (h : x = x') : endT r x = endT r x' := by rw [h]
def endsT {γ : Type} [CodR γ] (P : Program) (rs : List ResultVar) (r : γ) : Exit → SF → Prop
  | .normal, s => endT r (resF P rs s)
  | .ret, s => endT r (resF P rs s)
  | _, _ => False
section
variable {P : Program} {Φ : Specs} {γ : Type} [CodR γ]
@[go_sem ↓] theorem endsT_normal (rs : List ResultVar) (r : γ) (s : SF) : endsT P rs r .normal s = endT r (resF P rs s) := nd rfl
@[go_sem ↓] theorem endsT_ret (rs : List ResultVar) (r : γ) (s : SF) : endsT P rs r .ret s = endT r (resF P rs s) := nd rfl
structure Top where
  I0 : Imm
  w0 : World
  laid : Laid.ok w0
def Top.ctx (T : Top) : Ctx := ⟨T.I0, T.w0, [], T.laid, none⟩
theorem conT (hg : Good P Φ) (K : List Nat) {f : FuncId} {nt : Nat} {rs : List ResultVar} {ic : IC} (hf : factsI P f = some (nt, rs, ic)) {τ : Type} [CodA τ] {g : τ → Option γ} (hn : CodA.ar τ ≤ nt)
    (h : ∀ (C : Top) t r, g t = some r → walkI P Φ C.ctx nt K ic ⟨pars (CodA.encA t), fun _ => .unborn, 0⟩ (contI P Φ C.ctx nt K (endsT P rs r) [])) : Contract P f (FT g) := by
  unfold factsI at hf
  split at hf
  · split at hf
    · rename_i fn hfn
      split at hf
      · rename_i c hc
        split at hf
        · rename_i hok
          simp only [Option.map_eq_some_iff, Prod.mk.injEq] at hf
          obtain ⟨ic', hic, rfl, rfl, rfl⟩ := hf
          intro I w args xs r hlen hrep hI hL hF
          cases hd : (CodA.decA xs : Option τ) with
          | none => simp [FT, FTb, hd] at hF
          | some t =>
            cases hgt : g t with
            | none => simp [FT, FTb, hd, FTc, hgt] at hF
            | some b =>
              simp only [FT, FTb, hd, FTc, hgt, Option.some.injEq] at hF
              subst hF
              have hle := CodA.leA _ _ hd
              have hlen' : (CodA.encA t).length = args.size := by rw [← hle.1, hlen]
              have hrep' : ∀ (j : Nat) (x : V) (u : Value), (CodA.encA t)[j]? = some x → args[j]? = some u → Rep I w noPlaces x u := fun j x u hx hu => by
                have hj : j < xs.length := by rw [hle.1]; exact (List.getElem?_eq_some_iff.1 hx).1
                exact hle.2 j xs[j] x (by simp) hx I w u (hrep j xs[j] u (by simp) hu)
              refine calls_of_wp hfn hc ((wpIn_wide (n := 0)).1 ?_)
              have hsz : args.size ≤ fn.ntmps := by rw [← hlen', CodA.arA]; exact hn
              refine wpIn_mono (walkI_sound hg c ic' _ _ hic (h ⟨I, w, hL⟩ t b hgt) hok [] _ w (by simp; omega) rfl (start_simF (C := Top.ctx ⟨I, w, hL⟩) hlen' hrep' hI rfl)) ?_
              rintro e a' w' ⟨_, hd, s', hres, γ', I', hS⟩
              have hq : (e = .normal ∨ e = .ret) ∧ ∃ v, resF P fn.results.toList s' = some v ∧ CodR.decR v = some b := by
                simp only [contI_nil] at hres
                cases e with
                | normal =>
                  rw [endsT_normal] at hres
                  cases hv : resF P fn.results.toList s' with
                  | none => rw [hv] at hres; exact hres.elim
                  | some v => rw [hv] at hres; exact ⟨.inl rfl, v, rfl, hres⟩
                | ret =>
                  rw [endsT_ret] at hres
                  cases hv : resF P fn.results.toList s' with
                  | none => rw [hv] at hres; exact hres.elim
                  | some v => rw [hv] at hres; exact ⟨.inr rfl, v, rfl, hres⟩
                | _ => exact hres.elim
              obtain ⟨he, v, hv, hdv⟩ := hq
              obtain ⟨u, I2, hrun, hr, hI2⟩ := resG_run (fn := fn) hS hv
              have hpost : ∃ v, (results fn a'.tmps).run P w' = .ok v w' ∧ ∃ u, (Ending.returned v) = .returned u ∧ Bel w.heap.size w w' ∧ Rep (fun g x => I g x ∨ (w.heap.size ≤ g ∧ g < w'.heap.size)) w' noPlaces (CodR.encR b) u :=
                ⟨u, hrun, u, rfl, hS.below, CodR.leR _ _ hdv _ _ _ (hr.mono (Pres.refl _ _) hI2 fun _ _ h => h)⟩
              rcases he with rfl | rfl
              · exact ⟨hd, hpost⟩
              · exact ⟨hd, hpost⟩
        · cases hf
      · cases hf
    · cases hf
  · cases hf
end
end Go.Idl
namespace Go.Idl
set_option linter.all false
@[ext] structure Rdg where
  time : Int
  reg : Int
def Rdg.dec : V → Option Rdg
  | .agg [c0, c1] => bO (Cod.dec c0 : Option (Int)) fun a0 => bO (Cod.dec c1 : Option (Int)) fun a1 => some (.mk a0 a1)
  | _ => none
instance : Cod Rdg where
  enc := fun d => .agg [Cod.enc d.time, Cod.enc d.reg]
  dec := Rdg.dec
  sz := 2
  len := fun _ => rfl
  dec_enc := fun d => by
    simp only [Rdg.dec, Cod.dec_enc, bO_some]
  le := fun v a h => by
    unfold Rdg.dec at h
    split at h
    · simp only [bO_eq] at h
      obtain ⟨a0, h0, a1, h1, he⟩ := h
      cases he
      exact .agg (.cons (Cod.le _ _ h0).le (.cons (Cod.le _ _ h1).le .nil))
    · cases h
@[go_sem ↓] theorem Rdg.enc_eq (d : Rdg) : Cod.enc d = .agg [Cod.enc d.time, Cod.enc d.reg] := nd rfl
@[go_sem ↓] theorem Rdg.dec_eq (c0 c1 : V) : (Cod.dec (.agg [c0, c1]) : Option Rdg) = bO (Cod.dec c0 : Option (Int)) fun a0 => bO (Cod.dec c1 : Option (Int)) fun a1 => some (.mk a0 a1) := nd rfl
def Rdg.ok (d : Rdg) : Prop := okI d.time ∧ okI d.reg
@[go_sem] theorem Rdg.eta (d : Rdg) : Rdg.mk d.time d.reg = d := nd rfl
@[go_sem ↓] theorem Rdg.sz_eq : Cod.sz Rdg = 2 := nd rfl
@[ext] structure Disp where
  cdr : ByteArray
  who : ByteArray
  state : Int
  opened : Int
  claim : Int
  granted : Int
def Disp.dec : V → Option Disp
  | .agg [c0, c1, c2, c3, c4, c5] => bO (Cod.dec c0 : Option (ByteArray)) fun a0 => bO (Cod.dec c1 : Option (ByteArray)) fun a1 => bO (Cod.dec c2 : Option (Int)) fun a2 => bO (Cod.dec c3 : Option (Int)) fun a3 => bO (Cod.dec c4 : Option (Int)) fun a4 => bO (Cod.dec c5 : Option (Int)) fun a5 => some (.mk a0 a1 a2 a3 a4 a5)
  | _ => none
@[ext] structure TokD where
  id : ByteArray
  group : ByteArray
  contract : ByteArray
  kind : Int
  status : Int
  expiry : Int
def TokD.dec : V → Option TokD
  | .agg [c0, c1, c2, c3, c4, c5] => bO (Cod.dec c0 : Option (ByteArray)) fun a0 => bO (Cod.dec c1 : Option (ByteArray)) fun a1 => bO (Cod.dec c2 : Option (ByteArray)) fun a2 => bO (Cod.dec c3 : Option (Int)) fun a3 => bO (Cod.dec c4 : Option (Int)) fun a4 => bO (Cod.dec c5 : Option (Int)) fun a5 => some (.mk a0 a1 a2 a3 a4 a5)
  | _ => none
instance : Cod TokD where
  enc := fun d => .agg [Cod.enc d.id, Cod.enc d.group, Cod.enc d.contract, Cod.enc d.kind, Cod.enc d.status, Cod.enc d.expiry]
  dec := TokD.dec
  sz := 6
  len := fun _ => rfl
  dec_enc := fun d => by
    simp only [TokD.dec, Cod.dec_enc, bO_some]
  le := fun v a h => by
    unfold TokD.dec at h
    split at h
    · simp only [bO_eq] at h
      obtain ⟨a0, h0, a1, h1, a2, h2, a3, h3, a4, h4, a5, h5, he⟩ := h
      cases he
      exact .agg (.cons (Cod.le _ _ h0).le (.cons (Cod.le _ _ h1).le (.cons (Cod.le _ _ h2).le (.cons (Cod.le _ _ h3).le (.cons (Cod.le _ _ h4).le (.cons (Cod.le _ _ h5).le .nil))))))
    · cases h
@[go_sem ↓] theorem TokD.enc_eq (d : TokD) : Cod.enc d = .agg [Cod.enc d.id, Cod.enc d.group, Cod.enc d.contract, Cod.enc d.kind, Cod.enc d.status, Cod.enc d.expiry] := nd rfl
@[go_sem ↓] theorem TokD.dec_eq (c0 c1 c2 c3 c4 c5 : V) : (Cod.dec (.agg [c0, c1, c2, c3, c4, c5]) : Option TokD) = bO (Cod.dec c0 : Option (ByteArray)) fun a0 => bO (Cod.dec c1 : Option (ByteArray)) fun a1 => bO (Cod.dec c2 : Option (ByteArray)) fun a2 => bO (Cod.dec c3 : Option (Int)) fun a3 => bO (Cod.dec c4 : Option (Int)) fun a4 => bO (Cod.dec c5 : Option (Int)) fun a5 => some (.mk a0 a1 a2 a3 a4 a5) := nd rfl
def TokD.ok (d : TokD) : Prop := okS d.id ∧ okS d.group ∧ okS d.contract ∧ okI d.kind ∧ okI d.status ∧ okI d.expiry
@[go_sem] theorem TokD.eta (d : TokD) : TokD.mk d.id d.group d.contract d.kind d.status d.expiry = d := nd rfl
@[ext] structure TxnD where
  id : ByteArray
  conn : Int
  token : ByteArray
  group : ByteArray
  start : Int
  seq : Int
  stopped : Bool
  last : Rdg
def TxnD.dec : V → Option TxnD
  | .agg [c0, c1, c2, c3, c4, c5, c6, c7, c8] => bO (Cod.dec c0 : Option (ByteArray)) fun a0 => bO (Cod.dec c1 : Option (Int)) fun a1 => bO (Cod.dec c2 : Option (ByteArray)) fun a2 => bO (Cod.dec c3 : Option (ByteArray)) fun a3 => bO (Cod.dec c4 : Option (Int)) fun a4 => bO (Cod.dec c5 : Option (Int)) fun a5 => bO (Cod.dec c6 : Option (Bool)) fun a6 => bO (Cod.dec (.agg [c7, c8]) : Option (Rdg)) fun a7 => some (.mk a0 a1 a2 a3 a4 a5 a6 a7)
  | _ => none
instance : Cod TxnD where
  enc := fun d => .agg [Cod.enc d.id, Cod.enc d.conn, Cod.enc d.token, Cod.enc d.group, Cod.enc d.start, Cod.enc d.seq, Cod.enc d.stopped, Cod.enc d.last.time, Cod.enc d.last.reg]
  dec := TxnD.dec
  sz := 9
  len := fun _ => rfl
  dec_enc := fun d => by
    simp only [TxnD.dec, Cod.dec_enc, bO_some, show ∀ x : Rdg, (Cod.dec (.agg [Cod.enc x.time, Cod.enc x.reg]) : Option Rdg) = some x from fun x => Cod.dec_enc x]
  le := fun v a h => by
    unfold TxnD.dec at h
    split at h
    · simp only [bO_eq] at h
      obtain ⟨a0, h0, a1, h1, a2, h2, a3, h3, a4, h4, a5, h5, a6, h6, a7, h7, he⟩ := h
      cases he
      exact .agg (.cons (Cod.le _ _ h0).le (.cons (Cod.le _ _ h1).le (.cons (Cod.le _ _ h2).le (.cons (Cod.le _ _ h3).le (.cons (Cod.le _ _ h4).le (.cons (Cod.le _ _ h5).le (.cons (Cod.le _ _ h6).le (.app (Cod.le _ _ h7).cells .nil))))))))
    · cases h
@[go_sem ↓] theorem TxnD.enc_eq (d : TxnD) : Cod.enc d = .agg [Cod.enc d.id, Cod.enc d.conn, Cod.enc d.token, Cod.enc d.group, Cod.enc d.start, Cod.enc d.seq, Cod.enc d.stopped, Cod.enc d.last.time, Cod.enc d.last.reg] := nd rfl
@[go_sem ↓] theorem TxnD.dec_eq (c0 c1 c2 c3 c4 c5 c6 c7 c8 : V) : (Cod.dec (.agg [c0, c1, c2, c3, c4, c5, c6, c7, c8]) : Option TxnD) = bO (Cod.dec c0 : Option (ByteArray)) fun a0 => bO (Cod.dec c1 : Option (Int)) fun a1 => bO (Cod.dec c2 : Option (ByteArray)) fun a2 => bO (Cod.dec c3 : Option (ByteArray)) fun a3 => bO (Cod.dec c4 : Option (Int)) fun a4 => bO (Cod.dec c5 : Option (Int)) fun a5 => bO (Cod.dec c6 : Option (Bool)) fun a6 => bO (Cod.dec (.agg [c7, c8]) : Option (Rdg)) fun a7 => some (.mk a0 a1 a2 a3 a4 a5 a6 a7) := nd rfl
def TxnD.ok (d : TxnD) : Prop := okS d.id ∧ okI d.conn ∧ okS d.token ∧ okS d.group ∧ okI d.start ∧ okI d.seq ∧ True ∧ Rdg.ok d.last
@[go_sem] theorem TxnD.eta (d : TxnD) : TxnD.mk d.id d.conn d.token d.group d.start d.seq d.stopped d.last = d := nd rfl
@[ext] structure EvD where
  station : ByteArray
  txn : ByteArray
  conn : Int
  seq : Int
  kind : Int
  time : Int
  token : ByteArray
  offline : Bool
  reason : Int
  rds : List Rdg
def EvD.dec : V → Option EvD
  | .agg [c0, c1, c2, c3, c4, c5, c6, c7, c8, c9] => bO (Cod.dec c0 : Option (ByteArray)) fun a0 => bO (Cod.dec c1 : Option (ByteArray)) fun a1 => bO (Cod.dec c2 : Option (Int)) fun a2 => bO (Cod.dec c3 : Option (Int)) fun a3 => bO (Cod.dec c4 : Option (Int)) fun a4 => bO (Cod.dec c5 : Option (Int)) fun a5 => bO (Cod.dec c6 : Option (ByteArray)) fun a6 => bO (Cod.dec c7 : Option (Bool)) fun a7 => bO (Cod.dec c8 : Option (Int)) fun a8 => bO (Cod.dec c9 : Option (List Rdg)) fun a9 => some (.mk a0 a1 a2 a3 a4 a5 a6 a7 a8 a9)
  | _ => none
instance : Cod EvD where
  enc := fun d => .agg [Cod.enc d.station, Cod.enc d.txn, Cod.enc d.conn, Cod.enc d.seq, Cod.enc d.kind, Cod.enc d.time, Cod.enc d.token, Cod.enc d.offline, Cod.enc d.reason, Cod.enc d.rds]
  dec := EvD.dec
  sz := 10
  len := fun _ => rfl
  dec_enc := fun d => by
    simp only [EvD.dec, Cod.dec_enc, bO_some]
  le := fun v a h => by
    unfold EvD.dec at h
    split at h
    · simp only [bO_eq] at h
      obtain ⟨a0, h0, a1, h1, a2, h2, a3, h3, a4, h4, a5, h5, a6, h6, a7, h7, a8, h8, a9, h9, he⟩ := h
      cases he
      exact .agg (.cons (Cod.le _ _ h0).le (.cons (Cod.le _ _ h1).le (.cons (Cod.le _ _ h2).le (.cons (Cod.le _ _ h3).le (.cons (Cod.le _ _ h4).le (.cons (Cod.le _ _ h5).le (.cons (Cod.le _ _ h6).le (.cons (Cod.le _ _ h7).le (.cons (Cod.le _ _ h8).le (.cons (Cod.le _ _ h9).le .nil))))))))))
    · cases h
@[go_sem ↓] theorem EvD.enc_eq (d : EvD) : Cod.enc d = .agg [Cod.enc d.station, Cod.enc d.txn, Cod.enc d.conn, Cod.enc d.seq, Cod.enc d.kind, Cod.enc d.time, Cod.enc d.token, Cod.enc d.offline, Cod.enc d.reason, Cod.enc d.rds] := nd rfl
@[go_sem ↓] theorem EvD.dec_eq (c0 c1 c2 c3 c4 c5 c6 c7 c8 c9 : V) : (Cod.dec (.agg [c0, c1, c2, c3, c4, c5, c6, c7, c8, c9]) : Option EvD) = bO (Cod.dec c0 : Option (ByteArray)) fun a0 => bO (Cod.dec c1 : Option (ByteArray)) fun a1 => bO (Cod.dec c2 : Option (Int)) fun a2 => bO (Cod.dec c3 : Option (Int)) fun a3 => bO (Cod.dec c4 : Option (Int)) fun a4 => bO (Cod.dec c5 : Option (Int)) fun a5 => bO (Cod.dec c6 : Option (ByteArray)) fun a6 => bO (Cod.dec c7 : Option (Bool)) fun a7 => bO (Cod.dec c8 : Option (Int)) fun a8 => bO (Cod.dec c9 : Option (List Rdg)) fun a9 => some (.mk a0 a1 a2 a3 a4 a5 a6 a7 a8 a9) := nd rfl
def EvD.ok (d : EvD) : Prop := okS d.station ∧ okS d.txn ∧ okI d.conn ∧ okI d.seq ∧ okI d.kind ∧ okI d.time ∧ okS d.token ∧ True ∧ okI d.reason ∧ okL (Rdg.ok) d.rds
@[go_sem] theorem EvD.eta (d : EvD) : EvD.mk d.station d.txn d.conn d.seq d.kind d.time d.token d.offline d.reason d.rds = d := nd rfl
@[go_sem ↓] theorem EvD.sz_eq : Cod.sz EvD = 10 := nd rfl
@[ext] structure RecD where
  station : ByteArray
  txn : ByteArray
  conn : Int
  token : ByteArray
  start : Int
  stop : Int
  rds : List Rdg
  energy : Int
  reason : Int
  offline : Bool
  denied : Bool
def RecD.dec : V → Option RecD
  | .agg [c0, c1, c2, c3, c4, c5, c6, c7, c8, c9, c10] => bO (Cod.dec c0 : Option (ByteArray)) fun a0 => bO (Cod.dec c1 : Option (ByteArray)) fun a1 => bO (Cod.dec c2 : Option (Int)) fun a2 => bO (Cod.dec c3 : Option (ByteArray)) fun a3 => bO (Cod.dec c4 : Option (Int)) fun a4 => bO (Cod.dec c5 : Option (Int)) fun a5 => bO (Cod.dec c6 : Option (List Rdg)) fun a6 => bO (Cod.dec c7 : Option (Int)) fun a7 => bO (Cod.dec c8 : Option (Int)) fun a8 => bO (Cod.dec c9 : Option (Bool)) fun a9 => bO (Cod.dec c10 : Option (Bool)) fun a10 => some (.mk a0 a1 a2 a3 a4 a5 a6 a7 a8 a9 a10)
  | _ => none
instance : Cod RecD where
  enc := fun d => .agg [Cod.enc d.station, Cod.enc d.txn, Cod.enc d.conn, Cod.enc d.token, Cod.enc d.start, Cod.enc d.stop, Cod.enc d.rds, Cod.enc d.energy, Cod.enc d.reason, Cod.enc d.offline, Cod.enc d.denied]
  dec := RecD.dec
  sz := 11
  len := fun _ => rfl
  dec_enc := fun d => by
    simp only [RecD.dec, Cod.dec_enc, bO_some]
  le := fun v a h => by
    unfold RecD.dec at h
    split at h
    · simp only [bO_eq] at h
      obtain ⟨a0, h0, a1, h1, a2, h2, a3, h3, a4, h4, a5, h5, a6, h6, a7, h7, a8, h8, a9, h9, a10, h10, he⟩ := h
      cases he
      exact .agg (.cons (Cod.le _ _ h0).le (.cons (Cod.le _ _ h1).le (.cons (Cod.le _ _ h2).le (.cons (Cod.le _ _ h3).le (.cons (Cod.le _ _ h4).le (.cons (Cod.le _ _ h5).le (.cons (Cod.le _ _ h6).le (.cons (Cod.le _ _ h7).le (.cons (Cod.le _ _ h8).le (.cons (Cod.le _ _ h9).le (.cons (Cod.le _ _ h10).le .nil)))))))))))
    · cases h
@[go_sem ↓] theorem RecD.enc_eq (d : RecD) : Cod.enc d = .agg [Cod.enc d.station, Cod.enc d.txn, Cod.enc d.conn, Cod.enc d.token, Cod.enc d.start, Cod.enc d.stop, Cod.enc d.rds, Cod.enc d.energy, Cod.enc d.reason, Cod.enc d.offline, Cod.enc d.denied] := nd rfl
@[go_sem ↓] theorem RecD.dec_eq (c0 c1 c2 c3 c4 c5 c6 c7 c8 c9 c10 : V) : (Cod.dec (.agg [c0, c1, c2, c3, c4, c5, c6, c7, c8, c9, c10]) : Option RecD) = bO (Cod.dec c0 : Option (ByteArray)) fun a0 => bO (Cod.dec c1 : Option (ByteArray)) fun a1 => bO (Cod.dec c2 : Option (Int)) fun a2 => bO (Cod.dec c3 : Option (ByteArray)) fun a3 => bO (Cod.dec c4 : Option (Int)) fun a4 => bO (Cod.dec c5 : Option (Int)) fun a5 => bO (Cod.dec c6 : Option (List Rdg)) fun a6 => bO (Cod.dec c7 : Option (Int)) fun a7 => bO (Cod.dec c8 : Option (Int)) fun a8 => bO (Cod.dec c9 : Option (Bool)) fun a9 => bO (Cod.dec c10 : Option (Bool)) fun a10 => some (.mk a0 a1 a2 a3 a4 a5 a6 a7 a8 a9 a10) := nd rfl
def RecD.ok (d : RecD) : Prop := okS d.station ∧ okS d.txn ∧ okI d.conn ∧ okS d.token ∧ okI d.start ∧ okI d.stop ∧ okL (Rdg.ok) d.rds ∧ okI d.energy ∧ okI d.reason ∧ True ∧ True
@[go_sem] theorem RecD.eta (d : RecD) : RecD.mk d.station d.txn d.conn d.token d.start d.stop d.rds d.energy d.reason d.offline d.denied = d := nd rfl
@[ext] structure KeyD where
  station : ByteArray
  txn : ByteArray
  seq : Int
def KeyD.dec : V → Option KeyD
  | .agg [c0, c1, c2] => bO (Cod.dec c0 : Option (ByteArray)) fun a0 => bO (Cod.dec c1 : Option (ByteArray)) fun a1 => bO (Cod.dec c2 : Option (Int)) fun a2 => some (.mk a0 a1 a2)
  | _ => none
instance : Cod KeyD where
  enc := fun d => .agg [Cod.enc d.station, Cod.enc d.txn, Cod.enc d.seq]
  dec := KeyD.dec
  sz := 3
  len := fun _ => rfl
  dec_enc := fun d => by
    simp only [KeyD.dec, Cod.dec_enc, bO_some]
  le := fun v a h => by
    unfold KeyD.dec at h
    split at h
    · simp only [bO_eq] at h
      obtain ⟨a0, h0, a1, h1, a2, h2, he⟩ := h
      cases he
      exact .agg (.cons (Cod.le _ _ h0).le (.cons (Cod.le _ _ h1).le (.cons (Cod.le _ _ h2).le .nil)))
    · cases h
@[go_sem ↓] theorem KeyD.enc_eq (d : KeyD) : Cod.enc d = .agg [Cod.enc d.station, Cod.enc d.txn, Cod.enc d.seq] := nd rfl
@[go_sem ↓] theorem KeyD.dec_eq (c0 c1 c2 : V) : (Cod.dec (.agg [c0, c1, c2]) : Option KeyD) = bO (Cod.dec c0 : Option (ByteArray)) fun a0 => bO (Cod.dec c1 : Option (ByteArray)) fun a1 => bO (Cod.dec c2 : Option (Int)) fun a2 => some (.mk a0 a1 a2) := nd rfl
def KeyD.ok (d : KeyD) : Prop := okS d.station ∧ okS d.txn ∧ okI d.seq
@[go_sem] theorem KeyD.eta (d : KeyD) : KeyD.mk d.station d.txn d.seq = d := nd rfl
end Go.Idl
namespace Go.Idl
set_option linter.all false
variable [Laid]
theorem toList_loop (bs : ByteArray) : ∀ (m i : Nat) (r : List UInt8), bs.size - i = m → ByteArray.toList.loop bs i r = r.reverse ++ bs.data.toList.drop i
  | 0, i, r, h => by
    rw [ByteArray.toList.loop]
    have hs : ¬ i < bs.size := by omega
    have hl : bs.data.toList.length = bs.size := rfl
    rw [if_neg hs, List.drop_eq_nil_of_le (by omega)]
    simp
  | m + 1, i, r, h => by
    rw [ByteArray.toList.loop]
    have hs : i < bs.size := by omega
    rw [if_pos hs, toList_loop bs m (i + 1) _ (by omega)]
    have hl : i < bs.data.toList.length := hs
    rw [List.drop_eq_getElem_cons hl]
    have : bs.get! i = bs.data.toList[i] := by
      simp only [ByteArray.get!]
      rw [getElem!_pos bs.data i (by simpa using hl)]
      simp
    simp [this]
theorem toList_data (bs : ByteArray) : bs.toList = bs.data.toList := by
  unfold ByteArray.toList
  rw [toList_loop bs _ 0 [] rfl]
  simp
@[go_sem] theorem str_beq (a b : ByteArray) : (a.toList == b.toList) = decide (a = b) := by
  rw [toList_data, toList_data, Bool.eq_iff_iff]
  simp only [beq_iff_eq, decide_eq_true_eq]
  constructor
  · intro h
    cases a; cases b
    congr 1
    exact Array.toList_inj.1 h
  · rintro rfl; rfl
variable {P : Program}
theorem runPure_eqGuard {op : BinOp} {t : TypeId} {x y : Operand} {a b : Array Value} (h : P.eqGuardType P.depth t = false) : runPure P (eqGuard op t x y (.agg a) (.agg b)) = some () := by
  unfold eqGuard
  cases op <;> simp [program, runPure_bind, runPure, h, runPure_pure]
def eqV (ks : List CK) (cs ds : List V) : Option Bool := match concL cs, concL ds with
  | some xs, some ys => eqK ks xs ys
  | _, _ => none
theorem evBin_agg {f : Nat} {t : TypeId} {ks : List CK} (hk : cellKinds P f t = some ks) (ha : aggT P t = true) (hf : f ≤ 10000) (hg : P.eqGuardType P.depth t = false) {ρ : Operand → V} {x y : Operand} {t' ty : TypeId} {cs ds : List V} (hx : ρ x = .agg cs) (hy : ρ y = .agg ds)
    {b : Bool} (he : eqV ks cs ds = some b) (neg : Bool) :
    evPure P ρ (pu (.binOp (if neg then .neq else .eql) t x y t') ty) = some (.sc (.bool (b != neg)), []) := by
  unfold eqV at he
  split at he
  · rename_i xs ys h1 h2
    have := runPure_equalIn f 10000 t ks xs ys b hf hk he
    rw [ha] at this
    simp only [ofCells, if_true] at this
    have e : ∀ op, op = BinOp.eql ∨ op = .neq → runPure P (execOp (fun x => ((ρ x).conc).getD undef) (pu (.binOp op t x y t') ty)) = some (.value (.bool (if op = .neq then !b else b))) := by
      rintro op (rfl | rfl)
      · simp only [pu, execOp, hx, hy, V.conc, h1, h2, Option.map_some, Option.getD_some, runPure_bind, runPure_eqGuard hg, Option.bind_some, binOp, Op.equal, Op.maxDepth, this, runPure_pure]
        simp
      · simp only [pu, execOp, hx, hy, V.conc, h1, h2, Option.map_some, Option.getD_some, runPure_bind, runPure_eqGuard hg, Option.bind_some, binOp, Op.equal, Op.maxDepth, this, runPure_pure]
        simp
    have hall : ∀ op, (pu (.binOp op t x y t') ty).op.operands.all (fun x => (ρ x).conc.isSome) = true := fun op => by
      simp [pu, Op.operands, hx, hy, V.conc, h1, h2]
    cases neg with
    | true =>
      rw [evPure_of (v := .bool (!b)) (hall _) (by simp [pu]) (by simpa using e .neq (.inr rfl))]
      cases b <;> rfl
    | false =>
      rw [evPure_of (v := .bool b) (hall _) (by simp [pu]) (by simpa using e .eql (.inl rfl))]
      cases b <;> rfl
  · cases he
def eqInfo (P : Program) (t : TypeId) : Option (List CK) := if aggT P t = true ∧ P.eqGuardType P.depth t = false then cellKinds P 8 t else none
def eqO (neg : Bool) : Option Bool → Option (V × List (Nat × Obj))
  | some b => some (.sc (.bool (b != neg)), [])
  | none => none
@[go_sem ↓] theorem eqO_t (b : Bool) : eqO true (some b) = some (.sc (.bool (!b)), []) := by cases b <;> rfl
def eqS (P : Program) (ρ : Operand → V) (o : Oper) (neg : Bool) : Option Bool → Option (V × List (Nat × Obj))
  | some b => eqO neg (some b)
  | none => evPure P ρ o
@[congr] theorem eqS_congr {ρ : Operand → V} {o : Oper} {neg : Bool} {x x' : Option Bool} (h : x = x') : eqS P ρ o neg x = eqS P ρ o neg x' := by rw [h]
@[go_sem ↓] theorem eqS_some (ρ : Operand → V) (o : Oper) (neg : Bool) (b : Bool) : eqS P ρ o neg (some b) = eqO neg (some b) := nd rfl
theorem bin_agg {t : TypeId} {ks : List CK} (hk : eqInfo P t = some ks) {ρ : Operand → V} {x y : Operand} {t' ty : TypeId} {cs ds : List V} (hx : ρ x = .agg cs) (hy : ρ y = .agg ds) (isB neg : Bool) :
    evBin P ρ (pu (.binOp (if neg then .neq else .eql) t x y t') ty) (if neg then .neq else .eql) isB (.agg cs) (.agg ds) = eqS P ρ (pu (.binOp (if neg then .neq else .eql) t x y t') ty) neg (eqV ks cs ds) := by
  unfold eqInfo at hk
  split at hk
  · rename_i hc
    cases he : eqV ks cs ds with
    | none => rfl
    | some b => exact evBin_agg hk hc.1 (by omega) hc.2 hx hy he neg
  · cases hk
@[go_sem] theorem bin_agg_neq {t : TypeId} {ks : List CK} {cs ds : List V} {ρ : Operand → V} {x y : Operand} (hk : eqInfo P t = some ks) (hx : ρ x = .agg cs) (hy : ρ y = .agg ds) (t' ty : TypeId) (isB : Bool) :
    evBin P ρ (pu (.binOp .neq t x y t') ty) .neq isB (.agg cs) (.agg ds) = eqS P ρ (pu (.binOp .neq t x y t') ty) true (eqV ks cs ds) := bin_agg hk hx hy isB true
@[go_sem ↓] theorem opd_tmp (τ : Nat → V) (a : Nat) : opd τ (.tmp a) = τ a := nd rfl
@[go_sem ↓] theorem eqV_nil : eqV [] [] [] = some true := nd rfl
@[go_sem ↓] theorem andO_some (a b : Bool) : andO (some a) (some b) = some (a && b) := nd rfl
theorem eqV_cons (c : CK) (ks : List CK) (x y : Value) (cs ds : List V) : eqV (c :: ks) (.sc x :: cs) (.sc y :: ds) = andO (eqC c x y) (eqV ks cs ds) := by
  unfold eqV
  simp only [concL, V.conc1]
  cases concL cs <;> cases concL ds <;> cases h : eqC c x y <;> simp [eqK, h, andO]
@[go_sem ↓] theorem eqV_int (k : IntKind) (ks : List CK) (a b : Int) (cs ds : List V) : eqV (.i k :: ks) (.sc (.int k a) :: cs) (.sc (.int k b) :: ds) = andO (some (a == b)) (eqV ks cs ds) := by rw [eqV_cons]; simp [eqC]
@[go_sem ↓] theorem eqV_bool (ks : List CK) (a b : Bool) (cs ds : List V) : eqV (.b :: ks) (.sc (.bool a) :: cs) (.sc (.bool b) :: ds) = andO (some (a == b)) (eqV ks cs ds) := by rw [eqV_cons]; simp [eqC]
@[go_sem ↓] theorem eqV_str (ks : List CK) (a b : ByteArray) (cs ds : List V) : eqV (.s :: ks) (.sc (.string a) :: cs) (.sc (.string b) :: ds) = andO (some (decide (a = b))) (eqV ks cs ds) := by
  rw [eqV_cons]
  have : (a == b) = decide (a = b) := by
    cases a with | mk x =>
    cases b with | mk y =>
    have e : ((⟨x⟩ : ByteArray) == ⟨y⟩) = (x == y) := rfl
    rw [e, Bool.eq_iff_iff]
    simp
  simp [eqC, this]
attribute [go_sem] Bool.and_true decide_true beq_self_eq_true
end Go.Idl
namespace Go.Idl
set_option linter.all false
variable [Laid]
theorem FT_true {τ : Type} [CodA τ] {g : τ → Option Bool} {xs : List V} {t : τ} (h : CodA.decA xs = some t) (hg : g t = some true) : FT g xs = some (.sc (.bool true)) := by
  simp only [FT, FTb, h, FTc, hg]
  rfl
theorem decA_shape_nil {P : Program} {n : Nat} {xs : List V} (h : ShapeArgs P n [] xs) : (CodA.decA xs : Option Unit) = some () := by
  simp only [ShapeArgs] at h; subst h; rfl
theorem decA_mk {α τ : Type} [Cod α] [CodA τ] {x : V} {xs : List V} {a : α} {t : τ} (h1 : Cod.dec x = some a) (h2 : CodA.decA xs = some t) : (CodA.decA (x :: xs) : Option (α × τ)) = some (a, t) := by
  rw [decA_cons, h1, h2]; rfl
def Reads (P : Program) (n : Nat) (t : TypeId) (α : Type) [Cod α] (ok : α → Prop) : Prop := ∀ cs, Shape P n t cs → ∃ a : α, V.ofCells (aggT P t) cs = Cod.enc a ∧ cs = (Cod.enc a).cells ∧ ok a
theorem Reads.args {P : Program} {n : Nat} {t : TypeId} {ts : List TypeId} {α τ : Type} [Cod α] [CodA τ] {ok : α → Prop} {okt : τ → Prop} (h : Reads P n t α ok) (hs : ∀ xs, ShapeArgs P n ts xs → ∃ y : τ, CodA.decA xs = some y ∧ okt y) :
    ∀ xs, ShapeArgs P n (t :: ts) xs → ∃ y : α × τ, CodA.decA xs = some y ∧ ok y.1 ∧ okt y.2 := by
  rintro xs ⟨cs, ys, rfl, h1, h2⟩
  obtain ⟨a, ha, _, hok⟩ := h cs h1
  obtain ⟨y, hy, hoky⟩ := hs ys h2
  exact ⟨(a, y), decA_mk (by rw [ha]; exact Cod.dec_enc a) hy, hok, hoky⟩
theorem Reads.nil {P : Program} {n : Nat} : ∀ xs, ShapeArgs P n [] xs → ∃ y : Unit, CodA.decA xs = some y ∧ True := fun _ h => ⟨(), decA_shape_nil h, trivial⟩
theorem Reads.kint {P : Program} {n : Nat} {t : TypeId} {k : IntKind} (h : P.underlying t = some (.int k)) : Reads P (n + 1) t (KInt k) fun _ => True := by
  intro cs hs
  rw [shape_int h] at hs
  obtain ⟨m, rfl, h1, h2⟩ := hs
  exact ⟨⟨m, h1, h2⟩, by simp [V.ofCells, aggT, h, Cod.enc], rfl, trivial⟩
theorem Reads.bool {P : Program} {n : Nat} {t : TypeId} (h : P.underlying t = some .bool) : Reads P (n + 1) t Bool fun _ => True := by
  intro cs hs
  rw [shape_bool h] at hs
  obtain ⟨m, rfl⟩ := hs
  exact ⟨m, by simp [V.ofCells, aggT, h, Cod.enc], rfl, trivial⟩
theorem Reads.list {P : Program} {n : Nat} {t e : TypeId} {α : Type} [Cod α] {ok : α → Prop} (h : P.underlying t = some (.slice e)) (hz : P.cellsOf e = Cod.sz α) (hr : Reads P n e α ok) : Reads P (n + 1) t (List α) (okL ok) := by
  intro cs hs
  rw [shape_slice h] at hs
  obtain ⟨es, rfl, h1, h2⟩ := hs
  have key : ∀ es : List (List V), (∀ x ∈ es, Shape P n e x) → ∃ l : List α, es.map (V.ofCells (aggT P e)) = l.map Cod.enc ∧ l.length = es.length ∧ ∀ a ∈ l, ok a := by
    intro es
    induction es with
    | nil => intro _; exact ⟨[], rfl, rfl, by simp⟩
    | cons x es ih =>
      intro hx
      obtain ⟨a, ha, _, hok⟩ := hr x (hx x (by simp))
      obtain ⟨l, hl1, hl2, hl3⟩ := ih fun y hy => hx y (by simp [hy])
      exact ⟨a :: l, by simp [ha, hl1], by simp [hl2], by simpa using ⟨hok, hl3⟩⟩
  obtain ⟨l, hl1, hl2, hl3⟩ := key es h2
  have e1 : V.slice (P.cellsOf e) (es.map (V.ofCells (aggT P e))) = Cod.enc l := by rw [hl1, hz]; rfl
  refine ⟨l, ?_, by rw [e1]; rfl, by rw [hl2]; exact h1, hl3⟩
  rw [e1]
  simp [V.ofCells, aggT, h]
end Go.Idl
namespace Go.Idl
set_option linter.all false
open Go.RowKit
variable [Laid]
def objsL : List Obj → Heap
  | [], _ => .unborn
  | x :: _, 0 => x
  | _ :: O, n + 1 => objsL O n
@[go_sem ↓] theorem objsL_nil (n : Nat) : objsL [] n = .unborn := nd rfl
@[go_sem ↓] theorem objsL_zero (x : Obj) (O : List Obj) : objsL (x :: O) 0 = x := nd rfl
@[go_sem ↓] theorem objsL_succ (x : Obj) (O : List Obj) (n : Nat) : objsL (x :: O) (n + 1) = objsL O n := nd rfl
def V.lowA (m : Nat) : V → Bool
  | .any => true
  | .sc _ => true
  | .slice _ _ => true
  | .mt => true
  | .own id _ _ => decide (id < m)
  | .ref id _ _ => decide (id < m)
  | .mapr id => decide (id < m)
  | .mapf _ _ => true
  | .elem _ _ => true
  | _ => false
def V.lowC (m : Nat) : V → Bool
  | .fn _ xs ys => xs.all (V.lowA m) && ys.all (V.lowA m)
  | v => v.lowA m
def V.low (m : Nat) : V → Bool
  | .agg cs => cs.all (V.lowC m)
  | v => v.lowC m
def Ext.low (m : Nat) : Ext → Bool
  | .iter _ _ => true
  | .map _ vs => vs.all (V.low m)
  | .raw _ => true
  | .miter _ _ _ _ => true
def Obj.low (m : Nat) : Obj → Bool
  | .live _ es _ => es.all (V.low m)
  | .ext x => x.low m
  | _ => true
def cutP (γ : Places) (m : Nat) : Places := fun id => if id < m then γ id else none
variable {C : Ctx} {γ : Places} {I : Imm} {τ : Nat → V} {H : Heap} {tm : Array Value} {w : World}
theorem Rep.lowA {m : Nat} {x : V} {u : Value} (h : Rep I w γ x u) (hl : x.lowA m = true) : Rep I w (cutP γ m) x u := by
  cases h with
  | any => exact .any _ _
  | sc => exact .sc _ _
  | agg => simp [V.lowA] at hl
  | nilslice => exact .nilslice _ _ _ _
  | slice _ _ _ g o cap f hcap hsz hc h => exact .slice _ _ _ g o cap f hcap hsz hc h
  | own _ id off len cap p c t m hp hcap hb hroom =>
    simp [V.lowA] at hl
    exact .own _ _ _ _ _ p c t m (by simp [cutP, hl, hp]) hcap hb hroom
  | own0 => exact .own0 _ _ _ _
  | mt => exact .mt _ _
  | mapf _ ks vs r clock ents hI hr hl' hk h => exact .mapf _ _ _ _ _ _ hI hr hl' hk h
  | mapr _ id p hp => simp [V.lowA] at hl; exact .mapr _ _ p (by simp [cutP, hl, hp])
  | ref _ id idx off p hp => simp [V.lowA] at hl; exact .ref _ _ _ _ p (by simp [cutP, hl, hp])
  | elem _ e off g o f hc h => exact .elem _ _ _ _ _ f hc h
  | tup => simp [V.lowA] at hl
  | iface => simp [V.lowA] at hl
  | fn => simp [V.lowA] at hl
theorem Rep.lowC {m : Nat} {x : V} {u : Value} (h : Rep I w γ x u) (hl : x.lowC m = true) : Rep I w (cutP γ m) x u := by
  cases x with
  | fn f xs ys =>
    simp only [V.lowC, Bool.and_eq_true, List.all_eq_true] at hl
    cases h with
    | fn _ _ _ _ us vs e1 e2 e3 e4 =>
      exact .fn _ _ _ _ us vs e1 e2 (fun j c u hc hu => (e3 j c u hc hu).lowA (hl.1 c (List.mem_of_getElem? hc))) fun j c u hc hu => (e4 j c u hc hu).lowA (hl.2 c (List.mem_of_getElem? hc))
  | _ => exact h.lowA (by simpa [V.lowC] using hl)
theorem Rep.low {m : Nat} {x : V} {u : Value} (h : Rep I w γ x u) (hl : x.low m = true) : Rep I w (cutP γ m) x u := by
  cases x with
  | agg cs =>
    simp only [V.low, List.all_eq_true] at hl
    cases h with
    | agg _ _ vs hlen hh => exact .agg _ _ _ hlen fun j c u hc hu => (hh j c u hc hu).lowC (hl c (List.mem_of_getElem? hc))
  | _ => exact h.lowC (by simpa [V.low] using hl)
theorem low_cell {m : Nat} {e x : V} (h : e.low m = true) {j : Nat} (hj : e.cells[j]? = some x) : x.lowC m = true := by
  cases e with
  | agg cs =>
    simp only [V.low, List.all_eq_true] at h
    exact h x (List.mem_of_getElem? hj)
  | _ =>
    simp only [V.cells] at hj
    cases j with
    | zero => simp at hj; subst hj; simpa [V.low] using h
    | succ j => simp at hj
def LowC (C : Ctx) (m : Nat) : Prop := ∀ fr, fr ∈ C.keep → ∀ t, (fr.1 t).low m = true
theorem Sim.cut (h : Sim C γ I τ H tm w) {m : Nat} (hlow : LowC C m) {τ' : Nat → V} {H' : Heap} (hτ : ∀ t, τ' t = .any ∨ (τ' t = τ t ∧ (τ t).low m = true)) (h1 : ∀ id, id < m → H' id = H id ∧ (H id).low m = true) (h2 : ∀ id, m ≤ id → H' id = .unborn) :
    Sim C (cutP γ m) I τ' H' tm w where
  below := h.below
  imm0 := h.imm0
  immB := h.immB
  immS := h.immS
  kept := fun fr hf t => (h.kept fr hf t).low (hlow fr hf t)
  tmp := fun t => by
    rcases hτ t with e | ⟨e, hl⟩
    · rw [e]; exact .any _ _
    · rw [e]; exact (h.tmp t).low hl
  dom := fun id p hp => by
    unfold cutP at hp
    split at hp
    · rename_i hlt
      rw [(h1 id hlt).1]
      exact h.dom id p hp
    · cases hp
  obj := fun id sz es mu hl => by
    have hlt : id < m := by
      rcases Nat.lt_or_ge id m with h | h
      · exact h
      · rw [h2 id h] at hl; cases hl
    obtain ⟨e1, e2⟩ := h1 id hlt
    rw [e1] at hl
    rw [hl] at e2
    simp only [Obj.low, List.all_eq_true] at e2
    rcases h.obj id sz es mu hl with ⟨g1, g2⟩ | ⟨p, c, t, ha⟩
    · exact .inl ⟨g1, by simp [cutP, g2]⟩
    · refine .inr ⟨p, c, t, ⟨by simp [cutP, hlt, ha.place], ha.size, ha.blk, ha.len, fun i j e x he hx => ?_, ha.mutb, ha.fix, ha.quiet⟩⟩
      obtain ⟨u, hu, hr⟩ := ha.cell i j e x he hx
      exact ⟨u, hu, hr.lowC (low_cell (e2 e (List.mem_of_getElem? he)) hx)⟩
  ext := fun id x hl => by
    have hlt : id < m := by
      rcases Nat.lt_or_ge id m with h | h
      · exact h
      · rw [h2 id h] at hl; cases hl
    obtain ⟨e1, e2⟩ := h1 id hlt
    rw [e1] at hl
    rw [hl] at e2
    obtain ⟨p, g1, g2, o, g3, g4⟩ := h.ext id x hl
    refine ⟨p, by simp [cutP, hlt, g1], g2, o, g3, ?_⟩
    cases x with
    | iter s pos => exact g4
    | raw o' => exact g4
    | miter ks vs left last => exact g4
    | map ks vs =>
      obtain ⟨ents, clock, k1, k2, k3, k4, k5⟩ := g4
      simp only [Obj.low, Ext.low, List.all_eq_true] at e2
      exact ⟨ents, clock, k1, k2, k3, k4, fun j x e hx he => (k5 j x e hx he).low (e2 x (List.mem_of_getElem? hx))⟩
  inj := fun id id' p p' hl hl' hp hp' hb => by
    unfold cutP at hp hp'
    split at hp
    · rename_i a
      split at hp'
      · rename_i a'
        rw [(h1 id a).1] at hl
        rw [(h1 id' a').1] at hl'
        exact h.inj id id' p p' hl hl' hp hp' hb
      · cases hp'
    · cases hp
theorem LowC.top (T : Top) (m : Nat) : LowC T.ctx m := fun fr hf => by cases hf
def holdsO (H : Heap) (m : Nat) : Nat → List Obj → Prop
  | _, [] => True
  | k, x :: O => (H k = x ∧ x.low m = true) ∧ holdsO H m (k + 1) O
@[go_sem ↓] theorem holdsO_nil (H : Heap) (m k : Nat) : holdsO H m k [] = True := nd rfl
@[go_sem ↓] theorem holdsO_cons (H : Heap) (m k : Nat) (x : Obj) (O : List Obj) : holdsO H m k (x :: O) = ((H k = x ∧ x.low m = true) ∧ holdsO H m (k + 1) O) := nd rfl
def holdsM (τ : Nat → V) (m : Nat) : List (Nat × V) → Prop
  | [] => True
  | (k, v) :: L => (τ k = v ∧ v.low m = true) ∧ holdsM τ m L
@[go_sem ↓] theorem holdsM_nil (τ : Nat → V) (m : Nat) : holdsM τ m [] = True := nd rfl
@[go_sem ↓] theorem holdsM_cons (τ : Nat → V) (m k : Nat) (v : V) (L : List (Nat × V)) : holdsM τ m ((k, v) :: L) = ((τ k = v ∧ v.low m = true) ∧ holdsM τ m L) := nd rfl
theorem slotsM_of {τ : Nat → V} {m : Nat} : ∀ {L : List (Nat × V)}, holdsM τ m L → ∀ t, slotsL L t = .any ∨ (slotsL L t = τ t ∧ (τ t).low m = true)
  | [], _, t => .inl rfl
  | (k, v) :: L, h, t => by
    rw [slotsL_cons]
    by_cases e : t = k
    · subst e; rw [if_pos rfl]; exact .inr ⟨h.1.1.symm, by rw [h.1.1]; exact h.1.2⟩
    · rw [if_neg e]; exact slotsM_of h.2 t
theorem objs_of {H : Heap} {m : Nat} : ∀ {O : List Obj} {k : Nat}, holdsO H m k O → ∀ i, i < O.length → objsL O i = H (k + i) ∧ (H (k + i)).low m = true
  | [], k, _, i, hi => by simp at hi
  | x :: O, k, h, i, hi => by
    cases i with
    | zero => exact ⟨h.1.1.symm, by show (H k).low m = true; rw [h.1.1]; exact h.1.2⟩
    | succ i =>
      have := objs_of h.2 i (by simpa using hi)
      rw [show k + 1 + i = k + (i + 1) by omega] at this
      exact this
theorem objsL_out : ∀ {O : List Obj} {i : Nat}, O.length ≤ i → objsL O i = .unborn
  | [], _, _ => rfl
  | x :: O, 0, h => by simp at h
  | x :: O, i + 1, h => objsL_out (O := O) (by simpa using h)
theorem LeF.back {C : Ctx} {τ : Nat → V} {H : Heap} {n : Nat} {L : List (Nat × V)} {O : List Obj} {m : Nat} (hm : m = O.length) (h : holdsM τ m L ∧ holdsO H m 0 O) (hlow : LowC C m := by first | exact LowC.top _ _ | assumption) : LeF C ⟨τ, H, n⟩ ⟨slotsL L, objsL O, m⟩ := by
  subst hm
  rintro a w ⟨γ, I, hS⟩
  refine ⟨_, I, hS.cut (m := O.length) hlow (slotsM_of h.1) (fun id hid => ?_) fun id hid => objsL_out hid⟩
  have := objs_of h.2 id hid
  simpa using this
attribute [go_sem] V.low V.lowC V.lowA Obj.low Ext.low decide_true
section
variable {P : Program} {Φ : Specs} {N : Nat} {K : List Nat}
def againL (C : Ctx) {α A : Type} (st : Nat → A → SF) (inv : List α → A → Prop) (i : Nat) (xs : List α) (s' : SF) : Prop := ∃ a', inv xs a' ∧ LeF C s' (st (i + 1) a')
def roundL (C : Ctx) {α A : Type} (st : Nat → A → SF) (inv : List α → A → Prop) (i : Nat) (xs : List α) (Q : Exit → SF → Prop) : Exit → SF → Prop := andThenF (againL C st inv i xs) Q
@[go_sem ↓] theorem roundL_normal {α A : Type} (st : Nat → A → SF) (inv : List α → A → Prop) (i : Nat) (xs : List α) (Q : Exit → SF → Prop) (s : SF) : roundL C st inv i xs Q .normal s = againL C st inv i xs s := nd rfl
@[go_sem ↓] theorem roundL_exit {α A : Type} (st : Nat → A → SF) (inv : List α → A → Prop) (i : Nat) (xs : List α) (Q : Exit → SF → Prop) (id : Nat) (s : SF) : roundL C st inv i xs Q (.exit id) s = Q (.exit id) s := nd rfl
@[go_sem ↓] theorem roundL_ret {α A : Type} (st : Nat → A → SF) (inv : List α → A → Prop) (i : Nat) (xs : List α) (Q : Exit → SF → Prop) (s : SF) : roundL C st inv i xs Q .ret s = Q .ret s := nd rfl
def doneR (Q : Exit → SF → Prop) : Exit → SF → Prop := andThenF (fun _ => False) Q
@[go_sem ↓] theorem doneR_exit (Q : Exit → SF → Prop) (id : Nat) (s : SF) : doneR Q (.exit id) s = Q (.exit id) s := nd rfl
theorem TriI.loopL (hg : Good P Φ) (K : List Nat) {b : IC} {s : SF} {Q : Exit → SF → Prop} {α A : Type} (l : List α) (st : Nat → A → SF) (inv : List α → A → Prop) (a0 : A) (h0 : LeF C s (st 0 a0)) (hi : inv l a0)
    (done : ∀ a, inv [] a → walkI P Φ C N K b (st l.length a) (contI P Φ C N K (doneR Q) []))
    (round : ∀ i a x xs, l.drop i = x :: xs → i < l.length → l[i]? = some x → inv (x :: xs) a → walkI P Φ C N K b (st i a) (contI P Φ C N K (roundL C st inv i xs Q) [])) : TriI P C N (.loop b) s Q := by
  refine TriI.loopA hg K (fun p : Nat × A => st p.1 p.2) (fun p => p.1 ≤ l.length ∧ inv (l.drop p.1) p.2) (fun p => l.length - p.1) (0, a0) h0 ⟨by omega, by simpa using hi⟩ ?_
  rintro ⟨i, a⟩ ⟨hle, hinv⟩
  dsimp only at hle hinv ⊢
  by_cases hlt : i < l.length
  · have hd : l.drop i = l[i] :: l.drop (i + 1) := by rw [List.drop_eq_getElem_cons hlt]
    have := round i a l[i] (l.drop (i + 1)) hd hlt (by simp) (by rw [← hd]; exact hinv)
    refine walkI_mono ?_ this
    intro e s' hh
    cases e with
    | normal =>
      obtain ⟨a', h1, h2⟩ := hh
      exact ⟨(i + 1, a'), by dsimp only; omega, ⟨by dsimp only; omega, h1⟩, h2⟩
    | _ => exact hh
  · have e : i = l.length := by omega
    subst e
    rw [List.drop_length] at hinv
    refine walkI_mono ?_ (done a hinv)
    intro e s' hh
    cases e with
    | normal => exact hh.elim
    | _ => exact hh
end
@[go_sem ↓] theorem chunks_zero (ag : Bool) (sz : Nat) (cs : List V) : chunks ag sz cs 0 = [] := nd rfl
@[go_sem ↓] theorem chunks_f (sz n : Nat) (c : V) (cs : List V) : chunks false sz (c :: cs) (n + 1) = c :: chunks false sz ((c :: cs).drop sz) n := nd rfl
@[go_sem ↓] theorem chunks_t (sz n : Nat) (cs : List V) : chunks true sz cs (n + 1) = .agg (cs.take sz) :: chunks true sz (cs.drop sz) n := nd rfl
attribute [go_sem] V.isF V.isFc bne_self_eq_false
theorem wrap_nat {i n : Nat} (h : i < n) (hn : n ≤ 9223372036854775807) : IntKind.i64.wrap ((i : Int) + 1) = ((i + 1 : Nat) : Int) := by rw [IntKind.wrap_i64]; omega
theorem lt_dec {i n : Nat} (h : i < n) : decide ((i : Int) < (n : Int)) = true := by simp; omega
end Go.Idl
namespace Go.Idl
set_option linter.all false
open Go.RowKit
variable [Laid]
variable {P : Program} {Φ : Specs} {C : Ctx}
def rawF (P : Program) (rs : List ResultVar) (s : SF) : Option V := packR (resLF P s rs)
@[go_sem ↓] theorem rawF_at (rs : List ResultVar) (τ : Nat → V) (H : Heap) (n : Nat) : rawF P rs ⟨τ, H, n⟩ = packR (resLF P ⟨τ, H, n⟩ rs) := nd rfl
@[go_sem ↓] theorem packR_0 : packR (some []) = some (.tup []) := nd rfl
def endC (K : V → SF → Prop) (s : SF) : Option V → Prop
  | some v => K v s
  | none => False
@[congr] theorem endC_congr {K : V → SF → Prop} {s : SF} {x x' : Option V} (h : x = x') : endC K s x = endC K s x' := by rw [h]
@[go_sem ↓] theorem endC_some (K : V → SF → Prop) (s : SF) (v : V) : endC K s (some v) = K v s := nd rfl
def endsC (P : Program) (rs : List ResultVar) (K : V → SF → Prop) : Exit → SF → Prop
  | .normal, s => endC K s (rawF P rs s)
  | .ret, s => endC K s (rawF P rs s)
  | _, _ => False
@[go_sem ↓] theorem endsC_normal (rs : List ResultVar) (K : V → SF → Prop) (s : SF) : endsC P rs K .normal s = endC K s (rawF P rs s) := nd rfl
@[go_sem ↓] theorem endsC_ret (rs : List ResultVar) (K : V → SF → Prop) (s : SF) : endsC P rs K .ret s = endC K s (rawF P rs s) := nd rfl
theorem raw_run {fn : Func} {s : SF} {r : V} {γ : Places} {I : Imm} {tm : Array Value} {w : World} (hS : Sim C γ I s.τ s.H tm w) (h : rawF P fn.results.toList s = some r) :
    ∃ u, (results fn tm).run P w = .ok u w ∧ Rep I w γ r u := by
  unfold rawF at h
  cases hl : resLF P s fn.results.toList with
  | none => rw [hl] at h; cases h
  | some xs =>
    rw [hl] at h
    obtain ⟨vs, hv1, hv2, hv3⟩ := resLF_run hS _ _ hl
    have hrun : (fn.results.mapM (resM tm)).run P w = .ok vs.toArray w := by
      rw [Array.mapM_eq_mapM_toList]
      simp only [Functor.map, Sem.run_bind', hv1, Result.andThen_ok]
      rfl
    refine ⟨if h : vs.toArray.size = 1 then vs.toArray[0] else .tuple vs.toArray, ?_, ?_⟩
    · rw [results_eq]
      simp only [Sem.run_bind, hrun, Result.andThen_ok, Sem.run_pure]
    · match xs, vs, hv2, hv3, h with
      | [], [], _, _, h => cases h; exact .tup _ _ _ rfl (by simp)
      | [_], [_], _, hv3, h => cases h; exact hv3 0 _ _ rfl rfl
      | x :: y :: zs, a :: b :: cs, hl2, hv3, h =>
        cases h
        rw [dif_neg (by simp)]
        exact .tup _ _ _ (by simpa using hl2) fun j c u hc hu => hv3 j c u hc (by simpa using hu)
theorem CallT.of_walkK (hg : Good P Φ) (K' : List Nat) {f : FuncId} {nt : Nat} {rs : List ResultVar} {ic : IC} (hf : factsI P f = some (nt, rs, ic)) {vs : List V} {s : SF} {K : V → SF → Prop} (hn : vs.length ≤ nt)
    (h : ∀ C' : Ctx, (C'.I0 = C.I0 ∧ C'.w0 = C.w0 ∧ ∀ fr, fr ∈ C.keep → fr ∈ C'.keep) → (∀ m, (∀ t, (s.τ t).low m = true) → LowC C m → LowC C' m) → walkI P Φ C' nt K' ic ⟨pars vs, s.H, s.n⟩ (contI P Φ C' nt K' (endsC P rs K) [])) : CallT P C f vs s K := by
  refine ⟨facts_enters hf, ?_⟩
  unfold factsI at hf
  split at hf
  · split at hf
    · rename_i fn hfn
      split at hf
      · rename_i c hc
        split at hf
        · rename_i hok
          simp only [Option.map_eq_some_iff, Prod.mk.injEq] at hf
          obtain ⟨ic', hic, rfl, rfl, rfl⟩ := hf
          intro tm w γ I args hS hlen hrep
          refine calls_of_wp hfn hc ((wpIn_wide (n := 0)).1 ?_)
          let C' : Ctx := ⟨C.I0, C.w0, (s.τ, tm) :: C.keep, C.laid, none⟩
          have hlow : ∀ m, (∀ t, (s.τ t).low m = true) → LowC C m → LowC C' m := fun m h1 h2 fr hf t => by
            rcases List.mem_cons.1 hf with e | e
            · subst e; exact h1 t
            · exact h2 fr e t
          have hS' : SimF C' ⟨pars vs, s.H, s.n⟩ { tmps := args ++ Array.replicate (fn.ntmps - args.size) undef, defers := [] } w := by
            refine ⟨γ, I, {
              below := hS.below
              imm0 := hS.imm0
              immB := hS.immB
              immS := hS.immS
              tmp := fun t => ?_
              kept := fun fr hf t => ?_
              dom := hS.dom
              obj := hS.obj
              ext := hS.ext
              inj := hS.inj }⟩
            · show Rep I w γ (pars vs t) _
              rw [pars_eq]
              by_cases ht : t < args.size
              · have hx : vs[t]? = some vs[t] := List.getElem?_eq_getElem (by omega)
                have hu : args[t]? = some args[t] := by simp [ht]
                rw [hx, Option.getD_some]
                have := hrep t _ _ hx hu
                simpa [Array.getElem?_append_left ht, hu] using this
              · rw [List.getElem?_eq_none (by omega)]
                exact .any _ _
            · rcases List.mem_cons.1 hf with e | e
              · subst e; exact hS.tmp t
              · exact hS.kept fr e t
          refine wpIn_mono (walkI_sound hg c ic' _ _ hic (h C' ⟨rfl, rfl, fun fr hf => List.mem_cons_of_mem _ hf⟩ hlow) hok [] _ w (by simp; omega) rfl hS') ?_
          rintro e a' w' ⟨_, hd, s', hres, γ', I', hS2⟩
          have hq : (e = .normal ∨ e = .ret) ∧ ∃ v, rawF P fn.results.toList s' = some v ∧ K v s' := by
            simp only [contI_nil] at hres
            cases e with
            | normal =>
              rw [endsC_normal] at hres
              cases hv : rawF P fn.results.toList s' with
              | none => rw [hv] at hres; exact hres.elim
              | some v => rw [hv] at hres; exact ⟨.inl rfl, v, rfl, hres⟩
            | ret =>
              rw [endsC_ret] at hres
              cases hv : rawF P fn.results.toList s' with
              | none => rw [hv] at hres; exact hres.elim
              | some v => rw [hv] at hres; exact ⟨.inr rfl, v, rfl, hres⟩
            | _ => exact hres.elim
          obtain ⟨he, v, hv, hk⟩ := hq
          obtain ⟨u, hrun, hr⟩ := raw_run (fn := fn) hS2 hv
          have hback : Sim C γ' I' s.τ s'.H tm w' := {
            below := hS2.below
            imm0 := hS2.imm0
            immB := hS2.immB
            immS := hS2.immS
            tmp := fun t => hS2.kept (s.τ, tm) (List.mem_cons_self ..) t
            kept := fun fr hf t => hS2.kept fr (List.mem_cons_of_mem _ hf) t
            dom := hS2.dom
            obj := hS2.obj
            ext := hS2.ext
            inj := hS2.inj }
          have hpost : ∃ v, (results fn a'.tmps).run P w' = .ok v w' ∧ ∃ u v' s'', (Ending.returned v) = .returned u ∧ K v' s'' ∧ ∃ γ' I', Sim C γ' I' s.τ s''.H tm w' ∧ Rep I' w' γ' v' u :=
            ⟨u, hrun, u, v, s', rfl, hk, γ', I', hback, hr⟩
          rcases he with rfl | rfl
          · exact ⟨hd, hpost⟩
          · exact ⟨hd, hpost⟩
        · cases hf
      · cases hf
    · cases hf
  · cases hf
theorem CallT.of_walk (hg : Good P Φ) (K' : List Nat) {f : FuncId} {nt : Nat} {rs : List ResultVar} {ic : IC} (hf : factsI P f = some (nt, rs, ic)) {vs : List V} {s : SF} {K : V → SF → Prop} (hn : vs.length ≤ nt)
    (h : ∀ C' : Ctx, (∀ m, (∀ t, (s.τ t).low m = true) → LowC C m → LowC C' m) → walkI P Φ C' nt K' ic ⟨pars vs, s.H, s.n⟩ (contI P Φ C' nt K' (endsC P rs K) [])) : CallT P C f vs s K :=
  CallT.of_walkK hg K' hf hn fun C' _ hl => h C' hl
@[go_sem ↓] theorem inlV_yield (vs : List V) (s : SF) (K : V → SF → Prop) (l : Nat) : inlV P C vs s K (.sc (.func (.yield l) #[] #[])) = YieldT P C l vs s K := by simp [inlV, fnOf, yieldOf]
@[go_sem ↓] theorem inlV_fn (vs : List V) (s : SF) (K : V → SF → Prop) (f : FuncId) (xs ys : List V) : inlV P C vs s K (.fn (.func f) xs ys) = CallT P C f (xs ++ vs ++ ys) s K := nd rfl
@[go_sem ↓] theorem inlV_sc (vs : List V) (s : SF) (K : V → SF → Prop) (f : FuncId) : inlV P C vs s K (.sc (.func (.func f) #[] #[])) = CallT P C f vs s K := by simp [inlV, fnOf]
@[congr] theorem inlV_congr {vs vs' : List V} {s : SF} {K : V → SF → Prop} {x x' : V} (h1 : vs = vs') (h : x = x') : inlV P C vs s K x = inlV P C vs' s K x' := by rw [h, h1]
@[congr] theorem CallT_congr {f : FuncId} {vs vs' : List V} {s : SF} {K : V → SF → Prop} (h1 : vs = vs') : CallT P C f vs s K = CallT P C f vs' s K := by rw [h1]
@[go_sem ↓] theorem ev_mkf (n : Nat) (τ : Nat → V) (H : Heap) (fn : Fn) (xs ys : List A) : evIO P Φ n τ H (.mkf fn xs ys) = some (.fn fn (xs.map (A.get τ)) (ys.map (A.get τ)), []) := nd rfl
@[go_sem ↓] theorem ev_callv (n : Nat) (τ : Nat → V) (H : Heap) (x : A) (xs : List A) : evIO P Φ n τ H (.callv x xs) = none := nd rfl
@[go_sem ↓] theorem callI_none (H : Heap) (vs : List V) : callI H vs none = none := nd rfl
end Go.Idl
