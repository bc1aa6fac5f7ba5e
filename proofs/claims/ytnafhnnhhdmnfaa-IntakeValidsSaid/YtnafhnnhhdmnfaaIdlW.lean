/-
  Code in the short form, and the walk over it.
-/
import Derived.Test.YtnafhnnhhdmnfaaIdlV
namespace Go.Idl
set_option linter.all false
open Go.RowKit

theorem only_in {ids : List Nat} {h : Heap} {x : Nat} (hx : x ∈ ids) : only ids h x = h x := by
  unfold only
  rw [if_pos (by simpa using hx)]

theorem elems_sc (h h' : Heap) (sz : Nat) (u : Value) : (V.sc u).elems h sz = (V.sc u).elems h' sz := by
  cases u with
  | slice A n c => cases A <;> cases n <;> cases c <;> rfl
  | _ => rfl
theorem sliceI_sc (h h' : Heap) (sz : Nat) (u : Value) (lo hi mx : Option V) : evSliceI h sz (.sc u) lo hi mx = evSliceI h' sz (.sc u) lo hi mx := by
  cases u with
  | slice A n c => cases A <;> cases n <;> cases c <;> rfl
  | _ => rfl
theorem elems_only {ids : List Nat} {h : Heap} {sz : Nat} {v : V} (hv : ∀ x ∈ v.ids, x ∈ ids) : v.elems (only ids h) sz = v.elems h sz := by
  cases v with
  | own id off len => simp only [V.elems, only_in (hv id (by simp [V.ids]))]
  | sc u => exact elems_sc _ _ _ _
  | _ => rfl
theorem news_only {ids : List Nat} {h : Heap} {sz : Nat} {v : V} (hv : ∀ x ∈ v.ids, x ∈ ids) : news (only ids h) sz v = news h sz v := by
  cases v with
  | sc u => cases u <;> first | rfl | exact elems_sc _ _ _ _
  | own id off len => exact elems_only hv
  | _ => rfl
theorem freezeC_only {ids : List Nat} {h : Heap} {v : V} (hv : ∀ x ∈ v.idsC, x ∈ ids) : freezeC (only ids h) v = freezeC h v := by
  cases v with
  | own id off len => simp only [freezeC, only_in (hv id (by simp [V.idsC]))]
  | _ => rfl
theorem freezeL_only {ids : List Nat} {h : Heap} : ∀ {vs : List V}, (∀ v ∈ vs, ∀ x ∈ v.idsC, x ∈ ids) → freezeL (only ids h) vs = freezeL h vs
  | [], _ => rfl
  | v :: vs, hv => by simp only [freezeL, freezeC_only (hv v (by simp)), freezeL_only (ids := ids) (h := h) (vs := vs) (fun u hu => hv u (List.mem_cons_of_mem _ hu))]
theorem freeze_only {ids : List Nat} {h : Heap} {v : V} (hv : ∀ x ∈ v.ids, x ∈ ids) : freeze (only ids h) v = freeze h v := by
  cases v with
  | agg cs => simp only [freeze, freezeL_only (ids := ids) (h := h) (vs := cs) (fun u hu x hx => hv x (by simp only [V.ids, List.mem_flatMap]; exact ⟨u, hu, hx⟩))]
  | own id off len => exact freezeC_only (v := .own id off len) hv
  | _ => rfl
theorem freezes_only {ids : List Nat} {h : Heap} : ∀ {vs : List V}, (∀ v ∈ vs, ∀ x ∈ v.ids, x ∈ ids) → freezes (only ids h) vs = freezes h vs
  | [], _ => rfl
  | v :: vs, hv => by simp only [freezes, freeze_only (hv v (by simp)), freezes_only (ids := ids) (h := h) (vs := vs) (fun u hu => hv u (List.mem_cons_of_mem _ hu))]
theorem froze_only {ids ids' : List Nat} {h : Heap} (hv : ∀ x ∈ ids', x ∈ ids) : froze (only ids h) ids' = froze h ids' := by
  unfold froze
  induction ids' with
  | nil => rfl
  | cons x xs ih =>
    simp only [List.filterMap_cons, only_in (hv x (by simp))]
    rw [ih (fun y hy => hv y (by simp [hy]))]
theorem evSliceI_only {ids : List Nat} {h : Heap} {sz : Nat} {v : V} {lo hi mx : Option V} (hv : ∀ x ∈ v.ids, x ∈ ids) : evSliceI (only ids h) sz v lo hi mx = evSliceI h sz v lo hi mx := by
  cases v with
  | own id off len =>
    have h1 := only_in (h := h) (hv id (by simp [V.ids]))
    have h2 := froze_only (h := h) (ids := ids) (ids' := [id]) (fun x hx => hv x (by simpa [V.ids] using hx))
    simp only [evSliceI, h1, h2]
  | sc u => exact sliceI_sc _ _ _ _ _ _ _
  | _ => rfl

theorem evIO_only {P : Program} {Φ : Specs} {nid : Nat} {τ : Nat → V} {h : Heap} (io : Ins) : evIO P Φ nid τ (only (needI nid τ io) h) io = evIO P Φ nid τ h io := by
  cases io with
  | al z n => simp only [evIO, needI, only_in (List.mem_singleton.2 rfl)]
  | bx x => simp only [evIO, needI, evBox, only_in (List.mem_singleton.2 rfl)]
  | ld ag x =>
    simp only [evIO, needI]
    generalize x.get τ = vx
    cases vx <;> first | rfl | simp only [only_in (List.mem_singleton.2 rfl)]
  | st n x y =>
    simp only [evIO, needI]
    generalize x.get τ = vx
    cases vx <;> first | rfl | simp only [only_in (List.mem_singleton.2 rfl)]
  | ixs sz x i =>
    simp only [evIO, needI]
    generalize x.get τ = vx
    cases vx <;> first | rfl | simp only [V.ids, only_in (List.mem_singleton.2 rfl)]
  | bsl sz len ag z ps =>
    have e1 : ∀ l : List (Nat × Nat × V), (∀ x ∈ idsP l, x ∈ nid :: idsP (getP τ ps)) → frzP (only (nid :: idsP (getP τ ps)) h) l = frzP h l := by
      intro l hl
      unfold frzP
      refine List.map_congr_left fun p hp => ?_
      unfold frz1
      rw [freeze_only (fun x hx => hl x (List.mem_flatMap.2 ⟨p, hp, hx⟩))]
    have e2 := froze_only (h := h) (ids := nid :: idsP (getP τ ps)) (ids' := idsP (getP τ ps)) (fun x hx => List.mem_cons_of_mem _ hx)
    have e3 : only (nid :: idsP (getP τ ps)) h nid = h nid := only_in (List.mem_cons_self ..)
    simp only [evIO, needI, e2, e3, e1 (getP τ ps) (fun x hx => List.mem_cons_of_mem _ hx)]
  | mks => simp only [evIO, needI, only_in (List.mem_singleton.2 rfl)]
  | rng x =>
    simp only [evIO, needI, only_in (List.mem_singleton.2 rfl)]
  | nxt x =>
    simp only [evIO, needI]
    generalize x.get τ = vx
    cases vx with
    | ref id idx off =>
      cases idx with
      | zero =>
        cases off with
        | zero => simp only [only_in (List.mem_singleton.2 rfl)]
        | succ => rfl
      | succ => rfl
    | _ => rfl
  | sl sz x lo hi mx o =>
    simp only [evIO, needI]
    generalize x.get τ = vx
    cases vx with
    | sc u => cases u <;> first | rfl | exact sliceI_sc _ _ _ _ _ _ _
    | _ => exact evSliceI_only (fun x hx => hx)
  | app sz bytes x y =>
    simp only [evIO, needI]
    have h1 : only (nid :: ((x.get τ).ids ++ (y.get τ).ids)) h nid = h nid := only_in (by simp)
    have h2 : news (only (nid :: ((x.get τ).ids ++ (y.get τ).ids)) h) sz (y.get τ) = news h sz (y.get τ) := news_only (fun z hz => by simp [hz])
    rw [h1, h2]
    generalize hx : x.get τ = vx
    cases vx with
    | own id off len =>
      have h3 : only (nid :: ((V.own id off len).ids ++ (y.get τ).ids)) h id = h id := only_in (by simp [V.ids])
      simp only [h3]
    | sc u =>
      cases u with
      | slice A n c => cases A <;> cases n <;> cases c <;> rfl
      | _ => rfl
    | _ => rfl
  | mmk r => simp only [evIO, needI, only_in (List.mem_singleton.2 rfl)]
  | mpt ag ks x k v =>
    simp only [evIO, needI]
    generalize x.get τ = vx
    cases vx <;> first | rfl | simp only [idM, only_in (List.mem_singleton.2 rfl)]
  | mlk ag ks z b x k o =>
    simp only [evIO, needI]
    generalize x.get τ = vx
    cases vx <;> first | rfl | simp only [idM, only_in (List.mem_singleton.2 rfl)]
  | mdl ag ks x k o =>
    simp only [evIO, needI]
    generalize x.get τ = vx
    cases vx <;> first | rfl | simp only [idM, only_in (List.mem_singleton.2 rfl)]
  | mln x o =>
    simp only [evIO, needI]
    generalize x.get τ = vx
    cases vx <;> first | rfl | simp only [idM, only_in (List.mem_singleton.2 rfl)]
  | call f xs =>
    simp only [evIO, needI]
    have hin : ∀ v ∈ xs.map (A.get τ), ∀ z ∈ v.ids, z ∈ xs.flatMap fun x => (x.get τ).ids := by
      intro v hv z hz
      obtain ⟨x, hx, rfl⟩ := List.mem_map.1 hv
      exact List.mem_flatMap.2 ⟨x, hx, hz⟩
    rw [freezes_only hin, froze_only (fun z hz => by
      obtain ⟨v, hv, hz⟩ := List.mem_flatMap.1 hz
      exact hin v hv z hz)]
  | _ => rfl

structure IOp where
  d : Option Nat
  g : Option (Option Nat × Bool)
  io : Ins

inductive IC where
  | skip
  | reg (ops : List IOp)
  | drw (bef : List Nat) (ops : List IOp)
  | seq (x y : IC)
  | cond (c : A) (x y : IC)
  | block (id : Nat) (b : IC)
  | loop (b : IC)
  | exit (id : Nat)
  | ret

def cOper (P : Program) (ops : Array Oper) (o : Oper) : Option IOp :=
  (cOp P o).map fun io => ⟨o.dst, o.guard.map fun p => ((ops[p.1]?).bind (·.dst), p.2), io⟩
def cOps (P : Program) (ops : Array Oper) : List Oper → Option (List IOp)
  | [] => some []
  | o :: r => match cOper P ops o, cOps P ops r with
    | some x, some xs => some (x :: xs)
    | _, _ => none
def cCode (P : Program) : Code → Option IC
  | .skip => some .skip
  | .label _ => some .skip
  | .region _ ops d => (cOps P ops ops.toList).map fun l => if d then .drw (befs ops.toList []) l else .reg l
  | .seq x y => match cCode P x, cCode P y with
    | some x, some y => some (.seq x y)
    | _, _ => none
  | .cond c x y => match cCode P x, cCode P y with
    | some x, some y => some (.cond (A.of c) x y)
    | _, _ => none
  | .block id b => (cCode P b).map (.block id)
  | .loop b => (cCode P b).map .loop
  | .exit id => some (.exit id)
  | .ret => some .ret
  | _ => none

def wantI (τ : Nat → V) (g : Option (Option Nat × Bool)) : Option Bool :=
  match g with
  | none => some true
  | some (none, _) => some false
  | some (some t, want) => match τ t with
    | .sc (.bool b) => some (b == want)
    | .sc (.tuple _) => some false
    | _ => none

/-- Calls that are walked into. -/
def inlI (P : Program) (C : Ctx) (io : Ins) (s : SF) (K : V → SF → Prop) : Prop := match io with
  | .call f xs => CallT P C f (xs.map (A.get s.τ)) s K
  | .callv x xs => inlV P C (xs.map (A.get s.τ)) s K (x.get s.τ)
  | .pur o => OpT P C o s K
  | .opx o => OpT P C o s K
  | .lens _ o => OpT P C o s K
  | _ => False

/-- One region, in the order of the text. -/
def seqI (P : Program) (Φ : Specs) (C : Ctx) (Q : SF → Prop) : List IOp → SF → Prop
  | [], s => Q s
  | o :: rest, s => match wantI s.τ o.g with
    | some b => (b = true → match evIO P Φ s.n s.τ s.H o.io with
        | some (v, δ) => seqI P Φ C Q rest ⟨putF s.τ o.d v, putH s.H δ, bump s.n δ⟩
        | none => inlI P C o.io s fun v s' => seqI P Φ C Q rest ⟨putF s.τ o.d v, s'.H, s'.n⟩) ∧
      (b = false → seqI P Φ C Q rest ⟨putF s.τ o.d (.sc undef), s.H, s.n⟩)
    | none => False
/-- One region whose order is drawn. -/
def drwI (P : Program) (Φ : Specs) (C : Ctx) (bef : List Nat) (n0 : Nat) (Q : SF → Prop) : List IOp → Nat → List Rec → SF → Prop
  | [], i, acc, s => apartAll bef acc.reverse = true ∧ Q ⟨s.τ, s.H, n0 + i⟩
  | o :: rest, i, acc, s => match wantI s.τ o.g with
    | some b => (b = true → match evIO P Φ (n0 + i) s.τ s.H o.io with
        | some (v, δ) => drwI P Φ C bef n0 Q rest (i + 1) (⟨.any, δ.map fun p => (p.1, .dead), needI (n0 + i) s.τ o.io⟩ :: acc) ⟨putF s.τ o.d v, putH s.H δ, s.n⟩
        | none => o.g = none ∧ fullFrom bef i = true ∧ apartAll bef acc.reverse = true ∧ inlI P C o.io ⟨s.τ, s.H, n0 + i⟩ fun v s' => seqI P Φ C Q rest ⟨putF s.τ o.d v, s'.H, s'.n⟩) ∧
      (b = false → drwI P Φ C bef n0 Q rest (i + 1) (⟨.any, [], []⟩ :: acc) ⟨putF s.τ o.d (.sc undef), s.H, s.n⟩)
    | none => False

variable {P : Program} {Φ : Specs} {C : Ctx} {n : Nat}

theorem wantI_eq {τ : Nat → V} {ops : Array Oper} {o : Oper} : wantI τ (o.guard.map fun p => ((ops[p.1]?).bind (·.dst), p.2)) = wantV τ ops o := by
  unfold wantI wantV
  cases o.guard with
  | none => rfl
  | some p =>
    obtain ⟨j, want⟩ := p
    dsimp only [Option.map_some]
    cases (ops[j]?).bind (·.dst) with
    | none => rfl
    | some t =>
      dsimp only
      generalize τ t = v
      cases v with
      | sc u => cases u <;> rfl
      | _ => rfl

theorem ev_of_io {nid : Nat} {τ : Nat → V} {h : Heap} {o : Oper} {io : Ins} (hc : cOp P o = some io) {r : V × List (Nat × Obj)} (hr : evIO P Φ nid τ h io = some r) : ev P Φ nid (opd τ) h o = some r := by
  unfold ev
  rw [← (cOp_eq (P := P) (Φ := Φ) (nid := nid) (τ := τ) (h := h) hc).2]
  refine (cOp_eq hc).1 r ?_
  rw [evIO_only]
  exact hr

def Ins.isCall : Ins → Bool
  | .call _ _ => true
  | .callv _ _ => true
  | _ => false
theorem map_call {α : Type} {x : Option α} {g : α → Ins} {io : Ins} (h : x.map g = some io) (hg : ∀ a, (g a).isCall = false) : io.isCall = false := by
  rw [Option.map_eq_some_iff] at h; obtain ⟨a, _, rfl⟩ := h; exact hg a
theorem cOp_call {P : Program} {o : Oper} {io : Ins} (h : cOp P o = some io) (hc : io.isCall = true) : ∃ c y, o.op = .call c ∧ c.callee = .value y ∧
    ((∃ f, y = .func f ∧ io = .call f (c.args.toList.map A.of)) ∨ ((∀ f, y ≠ .func f) ∧ io = .callv (A.of y) (c.args.toList.map A.of))) := by
  unfold cOp at h
  cases ho : o.op with
  | call c =>
    rw [ho] at h
    simp only at h
    cases hcal : c.callee with
    | value y =>
      rw [hcal] at h
      cases y with
      | func f => simp only [Option.some.injEq] at h; exact ⟨c, _, rfl, hcal, .inl ⟨f, rfl, h.symm⟩⟩
      | _ => simp only [Option.some.injEq] at h; exact ⟨c, _, rfl, hcal, .inr ⟨by simp, h.symm⟩⟩
    | invoke => rw [hcal] at h; cases h
    | builtin b =>
      exfalso
      rw [hcal] at h
      have : io.isCall = false := by
        cases b <;> simp only at h <;> (repeat' split at h) <;> (try cases h) <;> (try rfl)
        all_goals first
          | exact map_call h fun _ => rfl
          | (rw [Option.bind_eq_some_iff] at h
             obtain ⟨et, _, h⟩ := h
             (repeat' split at h) <;> (try cases h) <;> rfl)
      rw [this] at hc; cases hc
  | _ =>
    exfalso
    have : io.isCall = false := by
      rw [ho] at h
      simp only at h
      first
        | (cases h; rfl)
        | exact map_call h fun _ => rfl
        | ((repeat' split at h) <;> first | (cases h; done) | (cases h; rfl) | exact map_call h fun _ => rfl)
        | (rw [Option.bind_eq_some_iff] at h; obtain ⟨et, _, h⟩ := h; first | exact map_call h fun _ => rfl | ((repeat' split at h) <;> first | (cases h; done) | (cases h; rfl) | exact map_call h fun _ => rfl))
        | (split at h <;> first | (cases h; rfl) | (rw [Option.bind_eq_some_iff] at h; obtain ⟨et, _, h⟩ := h; exact map_call h fun _ => rfl))
    rw [this] at hc; cases hc
def Ins.isOp : Ins → Bool
  | .pur _ => true
  | .opx _ => true
  | .lens _ _ => true
  | _ => false
def Ins.oper : Ins → Option Oper
  | .pur o => some o
  | .opx o => some o
  | .lens _ o => some o
  | _ => none
theorem map_op {α : Type} {x : Option α} {g : α → Ins} {io : Ins} (h : x.map g = some io) (hg : ∀ a, (g a).isOp = false) : io.isOp = false := by
  rw [Option.map_eq_some_iff] at h; obtain ⟨a, _, rfl⟩ := h; exact hg a
theorem cOp_op {P : Program} {o : Oper} {io : Ins} (h : cOp P o = some io) (hc : io.isOp = true) : io.oper = some (lean o) ∧ ∀ c, o.op = .call c → ∃ b, c.callee = .builtin b := by
  unfold cOp at h
  cases ho : o.op with
  | call c =>
    rw [ho] at h
    simp only at h
    cases hcal : c.callee with
    | value y =>
      exfalso
      rw [hcal] at h
      cases y <;> simp only [Option.some.injEq] at h <;> subst h <;> cases hc
    | invoke => rw [hcal] at h; cases h
    | builtin b =>
      rw [hcal] at h
      refine ⟨?_, fun c' e => by cases e; exact ⟨b, hcal⟩⟩
      cases b <;> simp only at h <;> (repeat' split at h) <;> (try (cases h; first | rfl | (cases hc; done)))
      all_goals first
        | (cases h; done)
        | (rw [map_op h fun _ => rfl] at hc; cases hc; done)
        | (rw [Option.bind_eq_some_iff] at h
           obtain ⟨et, _, h⟩ := h
           (repeat' split at h) <;> first | (cases h; done) | (cases h; cases hc; done))
  | _ =>
    refine ⟨?_, fun c' e => by cases e⟩
    rw [ho] at h
    simp only at h
    first
      | (cases h; first | rfl | (cases hc; done))
      | (rw [map_op h fun _ => rfl] at hc; cases hc; done)
      | ((repeat' split at h) <;> first | (cases h; done) | (cases h; first | rfl | (cases hc; done)) | (rw [map_op h fun _ => rfl] at hc; cases hc; done))
      | (rw [Option.bind_eq_some_iff] at h; obtain ⟨et, _, h⟩ := h; first | (rw [map_op h fun _ => rfl] at hc; cases hc; done) | ((repeat' split at h) <;> first | (cases h; done) | (cases h; cases hc; done) | (rw [map_op h fun _ => rfl] at hc; cases hc; done)))
      | (split at h <;> first | (cases h; cases hc; done) | (rw [Option.bind_eq_some_iff] at h; obtain ⟨et, _, h⟩ := h; rw [map_op h fun _ => rfl] at hc; cases hc; done))
theorem inlI_sound {o : Oper} {io : Ins} (hio : cOp P o = some io) {s : SF} {K K' : V → SF → Prop} (hk : ∀ v s', K v s' → K' v s') (h : inlI P C io s K) : inlO P C (opd s.τ) o s K' := by
  have mono : ∀ vs x, inlV P C vs s K x → inlV P C vs s K' x := fun vs x hh => by
    unfold inlV at hh ⊢
    split
    · rename_i f xs ys hf; rw [hf] at hh; exact hh.mono hk
    · rename_i hf; rw [hf] at hh; exact hh
  by_cases hopx : io.isOp = true
  · obtain ⟨hl, hc⟩ := cOp_op hio hopx
    have h' : OpT P C (lean o) s K' := by
      cases io <;> simp only [Ins.isOp, Bool.false_eq_true] at hopx <;> (simp only [inlI] at h; simp only [Ins.oper, Option.some.injEq] at hl; subst hl; exact h.mono hk)
    unfold inlO
    split
    · rename_i c ho
      obtain ⟨b, hb⟩ := hc c ho
      rw [hb]
      exact h'
    · exact h'
  have hcall : io.isCall = true := by
    cases io <;> first | rfl | exact absurd rfl hopx | exact h.elim
  obtain ⟨c, y, h1, h2, h3⟩ := cOp_call hio hcall
  unfold inlO
  rw [h1]
  simp only [h2]
  rcases h3 with ⟨f, rfl, rfl⟩ | ⟨_, rfl⟩
  · simp only [inlI, map_of] at h
    exact mono (c.args.toList.map (opd s.τ)) (opd s.τ (.func f)) (by simpa [inlV, fnOf, opd] using h)
  · simp only [inlI, map_of, A.get_of] at h
    exact mono _ _ h

theorem seqI_sound {ops : Array Oper} {Q : SF → Prop} : ∀ (l : List Oper) (il : List IOp) (s : SF), cOps P ops l = some il → seqI P Φ C Q il s → wpSeq P Φ C ops Q l s
  | [], il, s, hc, h => by simp [cOps] at hc; subst hc; exact h
  | o :: l, il, s, hc, h => by
    simp only [cOps] at hc
    split at hc
    · rename_i x xs h1 h2
      cases hc
      simp only [cOper, Option.map_eq_some_iff] at h1
      obtain ⟨io, hio, rfl⟩ := h1
      simp only [seqI, wantI_eq] at h
      simp only [wpSeq]
      cases hw : wantV s.τ ops o with
      | none => rw [hw] at h; exact h
      | some b =>
        rw [hw] at h
        refine ⟨fun hb => ?_, fun hb => seqI_sound l xs _ h2 (h.2 hb)⟩
        have h3 := h.1 hb
        split at h3
        · rename_i v δ hev
          rw [ev_of_io hio hev]
          exact .inl (seqI_sound l xs _ h2 h3)
        · exact .inr (inlI_sound hio (fun v s' hh => seqI_sound l xs _ h2 hh) h3)
    · cases hc

theorem drwI_sound {ops : Array Oper} {n0 : Nat} {Q : SF → Prop} : ∀ (l : List Oper) (il : List IOp) (i : Nat) (acc : List Rec) (s : SF), cOps P ops l = some il → drwI P Φ C (befs ops.toList []) n0 Q il i acc s → wpDraw P Φ C ops n0 Q l i acc s
  | [], il, i, acc, s, hc, h => by simp [cOps] at hc; subst hc; exact h
  | o :: l, il, i, acc, s, hc, h => by
    simp only [cOps] at hc
    split at hc
    · rename_i x xs h1 h2
      cases hc
      simp only [cOper, Option.map_eq_some_iff] at h1
      obtain ⟨io, hio, rfl⟩ := h1
      simp only [drwI, wantI_eq] at h
      simp only [wpDraw]
      cases hw : wantV s.τ ops o with
      | none => rw [hw] at h; exact h
      | some b =>
        rw [hw] at h
        refine ⟨fun hb => ?_, fun hb => drwI_sound l xs _ _ _ h2 (h.2 hb)⟩
        have h3 := h.1 hb
        split at h3
        · rename_i v δ hev
          rw [ev_of_io hio hev]
          rw [(cOp_eq (P := P) (Φ := Φ) (nid := n0 + i) (τ := s.τ) (h := s.H) hio).2] at h3
          exact .inl (drwI_sound l xs _ _ _ h2 h3)
        · exact .inr ⟨h3.2.1, h3.2.2.1, inlI_sound hio (fun v s' hh => seqI_sound l xs _ h2 hh) h3.2.2.2⟩
    · cases hc

/-- A piece of code, by its short form. -/
def TriI (P : Program) (C : Ctx) (n : Nat) (ic : IC) (s : SF) (Q : Exit → SF → Prop) : Prop := ∀ c, cCode P c = some ic → TriF P C n c s Q

theorem TriI.weaken {ic : IC} {s s' : SF} {Q : Exit → SF → Prop} (hl : LeF C s s') (h : TriI P C n ic s' Q) : TriI P C n ic s Q := fun c hc => (h c hc).weaken hl
theorem TriI.mono {ic : IC} {s : SF} {Q Q' : Exit → SF → Prop} (h : TriI P C n ic s Q) (hq : ∀ e s, Q e s → Q' e s) : TriI P C n ic s Q' := fun c hc => (h c hc).mono hq

/-- THE WALK over the short form: all but loops is laid open. -/
def walkI (P : Program) (Φ : Specs) (C : Ctx) (n : Nat) (K : List Nat) : IC → SF → (Exit → SF → Prop) → Prop
  | .skip, s, Q => Q .normal s
  | .reg ops, s, Q => seqI P Φ C (fun s' => Q .normal ⟨prune K s'.τ, s'.H, s'.n⟩) ops s
  | .drw bef ops, s, Q => drwI P Φ C bef s.n (fun s' => Q .normal ⟨prune K s'.τ, s'.H, s'.n⟩) ops 0 [] s
  | .seq x y, s, Q => walkI P Φ C n K x s (andThenF (fun s' => walkI P Φ C n K y s' Q) Q)
  | .cond c x y, s, Q => match c.get s.τ with
    | .sc (.bool t) => (t = true → walkI P Φ C n K x s Q) ∧ (t = false → walkI P Φ C n K y s Q)
    | _ => False
  | .block id b, s, Q => walkI P Φ C n K b s (inBlockF id Q)
  | .exit id, s, Q => Q (.exit id) s
  | .ret, s, Q => Q .ret s
  | .loop b, s, Q => TriI P C n (.loop b) s Q

theorem walkI_sound (hg : Good P Φ) {K : List Nat} : ∀ (c : Code) (ic : IC) (s : SF) (Q : Exit → SF → Prop), cCode P c = some ic → walkI P Φ C n K ic s Q → TriF P C n c s Q
  | .skip, ic, s, Q, hc, h => by cases hc; exact walk_sound (K := K) hg .skip s Q h
  | .label l, ic, s, Q, hc, h => by cases hc; exact walk_sound (K := K) hg (.label l) s Q h
  | .exit id, ic, s, Q, hc, h => by cases hc; exact walk_sound (K := K) hg (.exit id) s Q h
  | .ret, ic, s, Q, hc, h => by cases hc; exact walk_sound (K := K) hg .ret s Q h
  | .region id ops d, ic, s, Q, hc, h => by
    simp only [cCode, Option.map_eq_some_iff] at hc
    obtain ⟨l, hl, rfl⟩ := hc
    cases d with
    | true => exact walk_sound (K := K) hg (.region id ops true) s Q (drwI_sound _ _ _ _ _ hl h)
    | false => exact walk_sound (K := K) hg (.region id ops false) s Q (seqI_sound _ _ _ hl h)
  | .seq x y, ic, s, Q, hc, h => by
    simp only [cCode] at hc
    split at hc
    · rename_i x' y' hx hy
      cases hc
      exact .seq ((walkI_sound hg x x' s _ hx h).mono fun e s' hh => by
        cases e with
        | normal => exact walkI_sound hg y y' s' Q hy hh
        | _ => exact hh)
    · cases hc
  | .cond c x y, ic, s, Q, hc, h => by
    simp only [cCode] at hc
    split at hc
    · rename_i x' y' hx hy
      cases hc
      simp only [walkI, A.get_of] at h
      split at h
      · rename_i t ht
        refine .cond ht ?_
        cases t with
        | true => exact walkI_sound hg x x' s Q hx (h.1 rfl)
        | false => exact walkI_sound hg y y' s Q hy (h.2 rfl)
      · exact h.elim
    · cases hc
  | .block id b, ic, s, Q, hc, h => by
    simp only [cCode, Option.map_eq_some_iff] at hc
    obtain ⟨b', hb, rfl⟩ := hc
    exact .block (walkI_sound hg b b' s _ hb h)
  | .loop b, ic, s, Q, hc, h => by
    have hc' := hc
    simp only [cCode, Option.map_eq_some_iff] at hc'
    obtain ⟨b', hb, rfl⟩ := hc'
    exact h _ hc
  | .rangeFunc .., _, _, _, hc, _ => by cases hc
  | .scope _, _, _, _, hc, _ => by cases hc
  | .goto _, _, _, _, hc, _ => by cases hc
  | .refuse _, _, _, _, hc, _ => by cases hc

/-- A LOOP, in the short form. -/
theorem TriI.loop (hg : Good P Φ) {K : List Nat} {b : IC} {s : SF} {Q : Exit → SF → Prop} (J : Nat → SF → Prop) {m : Nat} (h0 : ∃ s', LeF C s s' ∧ J m s')
    (round : ∀ m s, J m s → walkI P Φ C n K b s (andThenF (fun s' => ∃ k s'', k < m ∧ LeF C s' s'' ∧ J k s'') Q)) : TriI P C n (.loop b) s Q := by
  intro c hc
  cases c <;> simp only [cCode] at hc
  case loop b' =>
    simp only [Option.map_eq_some_iff, IC.loop.injEq] at hc
    obtain ⟨b'', hb, rfl⟩ := hc
    exact TriF.loop J h0 fun m s hJ => walkI_sound hg b' b'' s _ hb (round m s hJ)
  all_goals first
    | cases hc
    | (split at hc <;> cases hc)
    | (simp only [Option.map_eq_some_iff] at hc; obtain ⟨l, hl, he⟩ := hc; split at he <;> cases he)
    | (simp only [Option.map_eq_some_iff] at hc; obtain ⟨l, hl, he⟩ := hc; cases he)

/-- A FUNCTION's CONTRACT by the walk over its short form. -/
theorem contractI (hg : Good P Φ) (K : List Nat) {f : FuncId} {fn : Func} {c : Code} {ic : IC} {F : List V → Option V} (hf : P.funcs[f]? = some fn) (hb : fn.body = some c) (hok : okCode fn.ntmps c = true) (hic : cCode P c = some ic)
    (hp : ∀ xs r, F xs = some r → xs.length ≤ fn.ntmps)
    (h : ∀ C xs r, F xs = some r → walkI P Φ C fn.ntmps K ic ⟨pars xs, fun _ => .unborn, 0⟩ fun e s' => (e = .normal ∨ e = .ret) ∧ resF P fn.results.toList s' = some r) : Contract P f F := by
  intro I w args xs r hlen hrep hI hF
  refine calls_of_wp hf hb ?_
  have hsz := hp xs r hF
  refine wp_mono (walkI_sound hg c ic _ _ hic (h ⟨I, w, []⟩ xs r hF) hok _ w (by simp; omega) rfl (start_simF (C := ⟨I, w, []⟩) hlen hrep hI rfl)) ?_
  rintro e a' w' ⟨_, hd, s', ⟨he, hres⟩, γ, I', hS⟩
  obtain ⟨u, I2, hrun, hr, hI2⟩ := resG_run (fn := fn) hS hres
  have hpost : ∃ v, (results fn a'.tmps).run P w' = .ok v w' ∧ ∃ u, (Ending.returned v) = .returned u ∧ Below w.heap.size w w' ∧ Rep (fun g x => I g x ∨ (w.heap.size ≤ g ∧ g < w'.heap.size)) w' noPlaces r u :=
    ⟨u, hrun, u, rfl, hS.below, hr.mono (Pres.refl _ _) hI2 fun _ _ h => h⟩
  rcases he with rfl | rfl
  · exact ⟨hd, hpost⟩
  · exact ⟨hd, hpost⟩

end Go.Idl
