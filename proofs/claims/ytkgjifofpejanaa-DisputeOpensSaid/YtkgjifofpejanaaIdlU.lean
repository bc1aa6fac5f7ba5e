/-
  The walk over ideal states, as one proposition to be simplified; states with functions.
-/
import Derived.Test.YtkgjifofpejanaaIdlT
namespace Go.Idl
set_option linter.all false
open Go.RowKit

structure SF where
  τ : Nat → V
  H : Nat → Obj
  n : Nat

def SimF (C : Ctx) (s : SF) (a : Act) (w : World) : Prop := ∃ γ I, Sim C γ I s.τ s.H a.tmps w

/-- Only these slots are known on. -/
def prune (K : List Nat) (τ : Nat → V) : Nat → V := fun t => if K.contains t then τ t else .any

theorem prune_upd (K : List Nat) (τ : Nat → V) (d : Nat) (v : V) : prune K (updT τ d v) = if K.contains d = true then updT (prune K τ) d v else prune K τ := by
  funext t
  unfold prune updT
  cases hd : K.contains d with
  | true =>
    simp only [if_true]
    by_cases e : t = d
    · subst e; simp only [hd, if_true]
    · simp only [if_neg e]
  | false =>
    simp only [Bool.false_eq_true, if_false]
    by_cases e : t = d
    · subst e; simp only [hd, Bool.false_eq_true, if_false]
    · simp only [if_neg e]
theorem prune_prune (K : List Nat) (τ : Nat → V) : prune K (prune K τ) = prune K τ := by
  funext t
  unfold prune
  cases h : K.contains t <;> simp

def bump (n : Nat) : List (Nat × Obj) → Nat
  | [] => n
  | _ => n + 1

/-- One region, in the order of the text, handing on. -/
def wpSeq (P : Program) (Φ : Specs) (ops : Array Oper) (Q : SF → Prop) : List Oper → SF → Prop
  | [], s => Q s
  | o :: rest, s => match wantV s.τ ops o with
    | some b => (b = true → match ev P Φ s.n (opd s.τ) s.H o with
        | some (v, δ) => wpSeq P Φ ops Q rest ⟨putF s.τ o.dst v, putH s.H δ, bump s.n δ⟩
        | none => False) ∧
      (b = false → wpSeq P Φ ops Q rest ⟨putF s.τ o.dst (.sc undef), s.H, s.n⟩)
    | none => False

/-- One region whose order is drawn: what each operation reads and writes is gathered. -/
def wpDraw (P : Program) (Φ : Specs) (ops : Array Oper) (n0 : Nat) (Q : SF → Prop) : List Oper → Nat → List Rec → SF → Prop
  | [], i, acc, s => apartAll (befs ops.toList []) acc.reverse = true ∧ Q ⟨s.τ, s.H, n0 + i⟩
  | o :: rest, i, acc, s => match wantV s.τ ops o with
    | some b => (b = true → match ev P Φ (n0 + i) (opd s.τ) s.H o with
        | some (v, δ) => wpDraw P Φ ops n0 Q rest (i + 1) (⟨.any, δ.map fun p => (p.1, .dead), need (n0 + i) (opd s.τ) o⟩ :: acc) ⟨putF s.τ o.dst v, putH s.H δ, s.n⟩
        | none => False) ∧
      (b = false → wpDraw P Φ ops n0 Q rest (i + 1) (⟨.any, [], []⟩ :: acc) ⟨putF s.τ o.dst (.sc undef), s.H, s.n⟩)
    | none => False

def TriF (P : Program) (C : Ctx) (n : Nat) (c : Code) (s : SF) (Q : Exit → SF → Prop) : Prop :=
  okCode n c = true → ∀ a w, a.tmps.size = n → a.defers = [] → SimF C s a w →
    c.wp P (fun e a' w' => a'.tmps.size = n ∧ a'.defers = [] ∧ ∃ s', Q e s' ∧ SimF C s' a' w') a w

def LeF (s s' : SF) : Prop := ∀ C a w, SimF C s a w → SimF C s' a w
theorem LeF.refl (s : SF) : LeF s s := fun _ _ _ h => h
theorem LeF.trans {s s' s'' : SF} (h : LeF s s') (h' : LeF s' s'') : LeF s s'' := fun C a w hh => h' C a w (h C a w hh)
/-- Slots may be forgotten. -/
theorem LeF.forget {s s' : SF} (hH : s'.H = s.H) (h : ∀ t, s'.τ t = .any ∨ s'.τ t = s.τ t) : LeF s s' := by
  rintro C a w ⟨γ, I, hS⟩
  refine ⟨γ, I, ?_⟩
  rw [hH]
  exact hS.forget h
theorem LeF.prune (K : List Nat) (s : SF) : LeF s ⟨Idl.prune K s.τ, s.H, s.n⟩ := .forget rfl fun t => by
  unfold Idl.prune
  dsimp only
  split
  · exact .inr rfl
  · exact .inl rfl

variable {P : Program} {C : Ctx} {n : Nat} {s : SF} {Q : Exit → SF → Prop}

theorem TriF.mono {c : Code} {Q' : Exit → SF → Prop} (h : TriF P C n c s Q) (hq : ∀ e s, Q e s → Q' e s) : TriF P C n c s Q' :=
  fun hok a w hn hd hS => wp_mono (h hok a w hn hd hS) fun e a' w' ⟨h1, h2, s', h3, h4⟩ => ⟨h1, h2, s', hq _ _ h3, h4⟩
theorem TriF.weaken {c : Code} {s' : SF} (hl : LeF s s') (h : TriF P C n c s' Q) : TriF P C n c s Q :=
  fun hok a w hn hd hS => h hok a w hn hd (hl C a w hS)

theorem wpSeq_sound {Φ : Specs} (hΦ : Met P Φ) {ops : Array Oper} {ds : List Deferred} {R : SF → Prop} {Q : Exit → Act → World → Prop} : ∀ (l : List Oper) (s : SF) (a : Act) (w : World), l.all (dstOk n) = true → a.tmps.size = n → a.defers = ds →
    SimF C s a w → wpSeq P Φ ops R l s → (∀ a' w' s', a'.tmps.size = n → a'.defers = ds → R s' → SimF C s' a' w' → Q .normal a' w') → wpList P ops Q l a w
  | [], s, a, w, _, hn, hds, hS, h, hQ => hQ a w s hn hds h hS
  | o :: rest, s, a, w, hok, hn, hds, hS, h, hQ => by
    obtain ⟨γ, I, hS⟩ := hS
    simp only [List.all_cons, Bool.and_eq_true] at hok
    simp only [wpSeq] at h
    refine wpList_step fun K hK => ?_
    split at h
    · rename_i b hw
      cases b with
      | true =>
        have h := h.1 rfl
        rw [if_pos (wantV_sound hS hw)]
        split at h
        · rename_i v δ hev
          refine ev_sound hΦ hS hev K Q fun u w' γ' I' hS' hr => hK _ _ ?_
          obtain ⟨h1, h2, h3⟩ := sim_putF hS' hr (by rw [hn]; exact hok.1)
          exact wpSeq_sound hΦ rest _ _ w' hok.2 (h2.trans hn) (h3.trans hds) ⟨γ', I', h1⟩ h hQ
        · exact h.elim
      | false =>
        have h := h.2 rfl
        rw [if_neg (by rw [wantV_sound hS hw]; simp)]
        obtain ⟨h1, h2, h3⟩ := sim_putF hS (Rep.sc (I := I) (w := w) γ undef) (by rw [hn]; exact hok.1)
        exact hK _ _ (wpSeq_sound hΦ rest _ _ w hok.2 (h2.trans hn) (h3.trans hds) ⟨γ, I, h1⟩ h hQ)
    · exact h.elim

/-- The gathered records decide as the whole ones do. -/
def thin (r : Rec) : Rec := ⟨.any, r.δ.map fun p => (p.1, .dead), r.rd⟩
theorem clash_thin (x y : Rec) : clash (thin x) (thin y) = clash x y := by
  simp [clash, thin, Function.comp_def]
theorem apartAll_thin (bef : List Nat) (recs : List Rec) : apartAll bef (recs.map thin) = apartAll bef recs := by
  unfold apartAll
  have e : ∀ i, (recs.map thin).getD i rec0 = thin (recs.getD i rec0) := fun i => by
    simp only [List.getD_eq_getElem?_getD, List.getElem?_map]
    cases recs[i]? <;> simp [thin, rec0]
  simp only [List.length_map, e, clash_thin]

theorem wpDraw_trace {Φ : Specs} {ops : Array Oper} {n0 : Nat} {R : SF → Prop} : ∀ (l : List Oper) (i : Nat) (acc : List Rec) (s : SF), wpDraw P Φ ops n0 R l i acc s →
    ∃ recs τ' H', trace P Φ ops n0 l i s.τ s.H = some (recs, τ', H') ∧ apartAll (befs ops.toList []) (acc.reverse ++ recs.map thin) = true ∧ R ⟨τ', H', n0 + i + l.length⟩
  | [], i, acc, s, h => ⟨[], s.τ, s.H, rfl, by simpa using h.1, by simpa using h.2⟩
  | o :: rest, i, acc, s, h => by
    simp only [wpDraw] at h
    simp only [trace]
    split at h
    · rename_i b hw
      cases b with
      | true =>
        have h := h.1 rfl
        split at h
        · rename_i v δ hev
          obtain ⟨recs, τ', H', h1, h2, h3⟩ := wpDraw_trace rest (i + 1) _ _ h
          dsimp only at h1
          refine ⟨⟨v, δ, need (n0 + i) (opd s.τ) o⟩ :: recs, τ', H', ?_, ?_, ?_⟩
          · simp only [hw, hev, h1]
          · simpa [thin] using h2
          · rw [List.length_cons, show n0 + i + (rest.length + 1) = n0 + (i + 1) + rest.length from by omega]; exact h3
        · exact h.elim
      | false =>
        have h := h.2 rfl
        obtain ⟨recs, τ', H', h1, h2, h3⟩ := wpDraw_trace rest (i + 1) _ _ h
        dsimp only at h1
        refine ⟨⟨.sc undef, [], []⟩ :: recs, τ', H', ?_, ?_, ?_⟩
        · simp only [hw, h1]
        · simpa [thin] using h2
        · rw [List.length_cons, show n0 + i + (rest.length + 1) = n0 + (i + 1) + rest.length from by omega]; exact h3
    · exact h.elim

theorem TriF.regionS {Φ : Specs} (hg : Good P Φ) {id : Nat} {ops : Array Oper} (h : wpSeq P Φ ops (Q .normal) ops.toList s) : TriF P C n (.region id ops false) s Q := by
  intro hok a w hn hd hS
  simp only [okCode, Bool.and_eq_true] at hok
  exact wp_region_list (wpSeq_sound hg.met _ _ _ _ hok.1 hn hd hS h fun a' w' s' h1 h2 h3 h4 => ⟨h1, h2, s', h3, h4⟩)

theorem TriF.regionD {Φ : Specs} (hg : Good P Φ) {id : Nat} {ops : Array Oper} (h : wpDraw P Φ ops s.n (Q .normal) ops.toList 0 [] s) : TriF P C n (.region id ops true) s Q := by
  intro hok a w hn hd hS
  simp only [okCode, Bool.and_eq_true, Bool.or_eq_true, Bool.not_eq_true'] at hok
  have hdr : drawOk ops = true := hok.2.resolve_left (by simp)
  obtain ⟨recs, τ', H', h1, h2, h3⟩ := wpDraw_trace _ _ _ _ h
  simp only [List.reverse_nil, List.nil_append, apartAll_thin] at h2
  exact trace_sound hg.met hg.orders hok.1 hdr hn hd hS h1 h2 fun a' w' k1 k2 k3 => ⟨k1, k2, _, h3, k3⟩

def andThenF (K : SF → Prop) (Q : Exit → SF → Prop) : Exit → SF → Prop
  | .normal, s => K s
  | e, s => Q e s
def inBlockF (id : Nat) (Q : Exit → SF → Prop) : Exit → SF → Prop
  | .exit id', s => if id' = id then Q .normal s else Q (.exit id') s
  | e, s => Q e s

theorem TriF.seq {x y : Code} (h : TriF P C n x s (andThenF (fun s' => TriF P C n y s' Q) Q)) : TriF P C n (.seq x y) s Q := by
  intro hok a w hn hd hS
  simp only [okCode, Bool.and_eq_true] at hok
  refine wp_seq (wp_mono (h hok.1 a w hn hd hS) ?_)
  rintro e a' w' ⟨h1, h2, s', h3, h4⟩
  cases e with
  | normal => exact h3 hok.2 a' w' h1 h2 h4
  | _ => exact ⟨h1, h2, s', h3, h4⟩

theorem TriF.cond {c : Operand} {x y : Code} {t : Bool} (hc : opd s.τ c = .sc (.bool t)) (h : TriF P C n (if t then x else y) s Q) : TriF P C n (.cond c x y) s Q := by
  intro hok a w hn hd hS
  simp only [okCode, Bool.and_eq_true] at hok
  obtain ⟨γ, I, hS'⟩ := hS
  have hr := hS'.opd a.defers c
  rw [hc] at hr
  refine wp_cond hr.sc_eq (h ?_ a w hn hd ⟨γ, I, hS'⟩)
  cases t
  · exact hok.2
  · exact hok.1

theorem TriF.block {id : Nat} {c : Code} (h : TriF P C n c s (inBlockF id Q)) : TriF P C n (.block id c) s Q := by
  intro hok a w hn hd hS
  refine wp_block (wp_mono (h hok a w hn hd hS) ?_)
  rintro e a' w' ⟨h1, h2, s', h3, h4⟩
  cases e with
  | exit id' =>
    simp only [Exit.inBlock, inBlockF] at h3 ⊢
    split at h3
    · rename_i e; rw [if_pos e]; exact ⟨h1, h2, s', h3, h4⟩
    · rename_i e; rw [if_neg e]; exact ⟨h1, h2, s', h3, h4⟩
  | _ => exact ⟨h1, h2, s', h3, h4⟩

/-- A LOOP: what holds at its head, with a number that every round lowers. -/
theorem TriF.loop {c : Code} (J : Nat → SF → Prop) {m : Nat} (h0 : ∃ s', LeF s s' ∧ J m s') (round : ∀ m s, J m s → TriF P C n c s (andThenF (fun s' => ∃ k s'', k < m ∧ LeF s' s'' ∧ J k s'') Q)) : TriF P C n (.loop c) s Q := by
  intro hok a w hn hd hS
  obtain ⟨s0, hle0, hJ0⟩ := h0
  refine wp_loop_idx (fun m a w => a.tmps.size = n ∧ a.defers = [] ∧ ∃ s, J m s ∧ SimF C s a w) (m := m) ⟨hn, hd, s0, hJ0, hle0 C a w hS⟩ ?_
  rintro m a w ⟨h1, h2, s, hJ, hS⟩
  refine wp_mono (round m s hJ hok a w h1 h2 hS) ?_
  rintro e a' w' ⟨h3, h4, s', h5, h6⟩
  cases e with
  | normal =>
    obtain ⟨k, s'', hk, hle, hJ'⟩ := h5
    exact ⟨k, hk, h3, h4, s'', hJ', hle C a' w' h6⟩
  | _ => exact ⟨h3, h4, s', h5, h6⟩

/-- THE WALK: all but loops is laid open. -/
def walk (P : Program) (Φ : Specs) (C : Ctx) (n : Nat) (K : List Nat) : Code → SF → (Exit → SF → Prop) → Prop
  | .skip, s, Q => Q .normal s
  | .label _, s, Q => Q .normal s
  | .region _ ops false, s, Q => wpSeq P Φ ops (fun s' => Q .normal ⟨prune K s'.τ, s'.H, s'.n⟩) ops.toList s
  | .region _ ops true, s, Q => wpDraw P Φ ops s.n (fun s' => Q .normal ⟨prune K s'.τ, s'.H, s'.n⟩) ops.toList 0 [] s
  | .seq x y, s, Q => walk P Φ C n K x s (andThenF (fun s' => walk P Φ C n K y s' Q) Q)
  | .cond c x y, s, Q => ∃ t, opd s.τ c = .sc (.bool t) ∧ (t = true → walk P Φ C n K x s Q) ∧ (t = false → walk P Φ C n K y s Q)
  | .block id b, s, Q => walk P Φ C n K b s (inBlockF id Q)
  | .exit id, s, Q => Q (.exit id) s
  | .ret, s, Q => Q .ret s
  | .loop b, s, Q => TriF P C n (.loop b) s Q
  | _, _, _ => False

theorem walk_sound {Φ : Specs} (hg : Good P Φ) {K : List Nat} : ∀ (c : Code) (s : SF) (Q : Exit → SF → Prop), walk P Φ C n K c s Q → TriF P C n c s Q
  | .skip, s, Q, h => fun _ _ _ hn hd hS => wp_skip ⟨hn, hd, s, h, hS⟩
  | .label _, s, Q, h => fun _ _ _ hn hd hS => wp_label ⟨hn, hd, s, h, hS⟩
  | .exit _, s, Q, h => fun _ _ _ hn hd hS => wp_exit ⟨hn, hd, s, h, hS⟩
  | .ret, s, Q, h => fun _ _ _ hn hd hS => wp_ret ⟨hn, hd, s, h, hS⟩
  | .region _ ops false, s, Q, h => fun hok a w hn hd hS => wp_mono (TriF.regionS (Q := fun e s' => e = .normal ∧ Q .normal ⟨prune K s'.τ, s'.H, s'.n⟩) hg (by
      have : (fun s' : SF => (Exit.normal = Exit.normal ∧ Q .normal ⟨prune K s'.τ, s'.H, s'.n⟩)) = fun s' => Q .normal ⟨prune K s'.τ, s'.H, s'.n⟩ := by funext s'; simp
      rw [this]; exact h) hok a w hn hd hS) fun e a' w' ⟨h1, h2, s', ⟨he, hq⟩, h4⟩ => by subst he; exact ⟨h1, h2, _, hq, LeF.prune K s' C a' w' h4⟩
  | .region _ ops true, s, Q, h => fun hok a w hn hd hS => wp_mono (TriF.regionD (Q := fun e s' => e = .normal ∧ Q .normal ⟨prune K s'.τ, s'.H, s'.n⟩) hg (by
      have : (fun s' : SF => (Exit.normal = Exit.normal ∧ Q .normal ⟨prune K s'.τ, s'.H, s'.n⟩)) = fun s' => Q .normal ⟨prune K s'.τ, s'.H, s'.n⟩ := by funext s'; simp
      rw [this]; exact h) hok a w hn hd hS) fun e a' w' ⟨h1, h2, s', ⟨he, hq⟩, h4⟩ => by subst he; exact ⟨h1, h2, _, hq, LeF.prune K s' C a' w' h4⟩
  | .seq x y, s, Q, h => .seq ((walk_sound hg x s _ h).mono fun e s' hh => by
      cases e with
      | normal => exact walk_sound hg y s' Q hh
      | _ => exact hh)
  | .cond c x y, s, Q, h => by
    obtain ⟨t, hc, h1, h2⟩ := h
    refine .cond hc ?_
    cases t with
    | true => exact walk_sound hg x s Q (h1 rfl)
    | false => exact walk_sound hg y s Q (h2 rfl)
  | .block id b, s, Q, h => .block (walk_sound hg b s _ h)
  | .loop b, s, Q, h => h
  | .rangeFunc .., _, _, h => h.elim
  | .scope _, _, _, h => h.elim
  | .goto _, _, _, h => h.elim
  | .refuse _, _, _, h => h.elim

/-! ### The end of a body -/
def resOneF (P : Program) (s : SF) : ResultVar → Option V
  | .tmp t => some (s.τ t)
  | .cell x t => evLoad P s.H t (s.τ x)
def resLF (P : Program) (s : SF) : List ResultVar → Option (List V)
  | [] => some []
  | r :: rs => match resOneF P s r, resLF P s rs with
    | some x, some xs => some (x :: xs)
    | _, _ => none
def resF (P : Program) (rs : List ResultVar) (s : SF) : Option V :=
  (resLF P s rs).bind fun xs => (freezes s.H xs).map fun
    | [x] => x
    | ys => .tup ys

/-- The slots of the parameters. -/
def pars : List V → Nat → V
  | [], _ => .any
  | x :: _, 0 => x
  | _ :: xs, n + 1 => pars xs n


theorem pars_eq (l : List V) (t : Nat) : pars l t = (l[t]?).getD .any := by
  induction l generalizing t with
  | nil => simp [pars]
  | cons x l ih => cases t <;> simp [pars, ih]

theorem start_simF {args : Array Value} {xs : List V} {n : Nat} (hlen : xs.length = args.size) (hr : ∀ (j : Nat) (x : V) (u : Value), xs[j]? = some x → args[j]? = some u → Rep C.I0 C.w0 noPlaces x u)
    (hI : ∀ g x, C.I0 g x → g < C.w0.heap.size) : SimF C ⟨pars xs, fun _ => .unborn, 0⟩ { tmps := args ++ Array.replicate n undef, defers := [] } C.w0 := by
  refine ⟨noPlaces, C.I0, {
    below := Below.refl _ _
    imm0 := fun _ _ h => h
    immB := fun _ _ h => .inl h
    immS := hI
    tmp := fun t => ?_
    dom := by simp [noPlaces]
    obj := by simp
    ext := by simp
    inj := by simp [noPlaces] }⟩
  simp only [pars_eq]
  by_cases ht : t < args.size
  · have hx : xs[t]? = some xs[t] := List.getElem?_eq_getElem (by omega)
    have hu : args[t]? = some args[t] := by simp [ht]
    rw [hx, Option.getD_some]
    have := hr t _ _ hx hu
    simpa [Array.getElem?_append_left ht, hu] using this
  · rw [List.getElem?_eq_none (by omega)]
    exact .any _ _

theorem resLF_run {s : SF} {γ : Places} {I : Imm} {tm : Array Value} {w : World} (hS : Sim C γ I s.τ s.H tm w) : ∀ (rs : List ResultVar) (xs : List V), resLF P s rs = some xs →
    ∃ vs : List Value, (rs.mapM (resM tm)).run P w = .ok vs w ∧ xs.length = vs.length ∧ ∀ (j : Nat) (x : V) (u : Value), xs[j]? = some x → vs[j]? = some u → Rep I w γ x u
  | [], xs, h => by
    simp [resLF] at h
    subst h
    exact ⟨[], rfl, rfl, by simp⟩
  | r :: rs, xs, h => by
    simp only [resLF] at h
    split at h
    · rename_i x xs' h1 h2
      cases h
      obtain ⟨vs, hv1, hv2, hv3⟩ := resLF_run hS rs xs' h2
      have fin : ∀ {u : Value}, (resM tm r).run P w = .ok u w → Rep I w γ x u →
          ∃ vs : List Value, ((r :: rs).mapM (resM tm)).run P w = .ok vs w ∧ (x :: xs').length = vs.length ∧ ∀ (j : Nat) (x0 : V) (u : Value), (x :: xs')[j]? = some x0 → vs[j]? = some u → Rep I w γ x0 u := by
        intro u hu hr
        refine ⟨u :: vs, ?_, by simp [hv2], fun j x0 u0 hx hu0 => ?_⟩
        · rw [List.mapM_cons]
          simp only [Sem.run_bind, hu, hv1, Result.andThen_ok, Sem.run_pure]
        · cases j with
          | zero => simp at hx hu0; subst hx hu0; exact hr
          | succ j => exact hv3 j x0 u0 (by simpa using hx) (by simpa using hu0)
      cases r with
      | tmp t =>
        simp only [resOneF, Option.some.injEq] at h1
        subst h1
        exact fin (u := tm.getD t undef) rfl (hS.tmp t)
      | cell a t =>
        simp only [resOneF] at h1
        obtain ⟨g, y, u, hu, hl, hr⟩ := load_run hS h1 (hS.tmp a)
        refine fin (u := u) ?_ hr
        simp only [resM]
        rw [hu]
        simp [asAddr, hl]
    · cases h

theorem resG_run {fn : Func} {s : SF} {r : V} {γ : Places} {I : Imm} {tm : Array Value} {w : World} (hS : Sim C γ I s.τ s.H tm w) (h : resF P fn.results.toList s = some r) :
    ∃ u I', (results fn tm).run P w = .ok u w ∧ Rep I' w noPlaces r u ∧ (∀ g x, I' g x → C.I0 g x ∨ (C.w0.heap.size ≤ g ∧ g < w.heap.size)) := by
  unfold resF at h
  cases hl : resLF P s fn.results.toList with
  | none => simp [hl] at h
  | some xs =>
    simp only [hl, Option.bind_some, Option.map_eq_some_iff] at h
    obtain ⟨ys, hfz, hr⟩ := h
    obtain ⟨vs, hv1, hv2, hv3⟩ := resLF_run hS _ _ hl
    obtain ⟨⟨I', hI', hS'⟩, hlast⟩ := Sim.froze s.H (xs.flatMap V.ids) hS (fun id sz es hl => ⟨true, hl⟩)
    obtain ⟨hf1, hf2⟩ := freezes_get hfz
    -- the objects that are looked at
    have hfix : ∀ x, x ∈ xs → ∀ y u, freeze s.H x = some y → Rep I w γ x u → Rep I' w noPlaces y u := by
      intro x hx y u hy hu
      have hids : ∀ id, id ∈ x.ids → id ∈ xs.flatMap V.ids := fun id hid => List.mem_flatMap.2 ⟨x, hx, hid⟩
      have hu' : Rep I' w γ x u := hu.mono (Pres.refl I w) hI' fun _ _ h => h
      -- one cell
      have one : ∀ (c d : V) (uc : Value), (∀ id, id ∈ c.idsC → id ∈ xs.flatMap V.ids) → freezeC s.H c = some d → Rep I' w γ c uc → Rep I' w noPlaces d uc := by
        intro c d uc hc hd huc
        have hh : freezeC (fun y => if y ∈ c.idsC then s.H y else .dead) c = some d := by
          cases c with
          | own id off len => simpa [freezeC, V.idsC] using hd
          | _ => first | (simp [freezeC] at hd; done) | simpa [freezeC] using hd
        refine freezeC_rep hS' (h := fun y => if y ∈ c.idsC then s.H y else .dead) (fun id sz es mu hlv hall => ?_) hh huc
        split at hlv
        · rename_i hm
          refine hlast id sz es mu hlv ?_
          cases mu with
          | false => exact .inl rfl
          | true => exact .inr ⟨hc id hm, hlv, hall⟩
        · cases hlv
      cases x with
      | agg cs =>
        simp only [freeze, Option.map_eq_some_iff] at hy
        obtain ⟨zs, hzs, rfl⟩ := hy
        obtain ⟨g1, g2⟩ := freezeL_get hzs
        cases hu' with
        | agg _ _ us hlen hh' =>
          refine .agg _ _ _ (by omega) fun j c z hc hz => ?_
          obtain ⟨c0, hc0, hfc⟩ := g2 j c hc
          refine one c0 c z (fun id hid => hids id ?_) hfc (hh' j c0 z hc0 hz)
          simp only [V.ids, List.mem_flatMap]
          exact ⟨c0, List.mem_of_getElem? hc0, hid⟩
      | own id off len => exact one (.own id off len) _ _ hids (by simpa only [freeze] using hy) hu'
      | _ => exact one _ _ _ (by simp [V.idsC]) (by simpa only [freeze] using hy) hu'
    have hrep : ∀ (j : Nat) (y : V) (u : Value), ys[j]? = some y → vs[j]? = some u → Rep I' w noPlaces y u := by
      intro j y u hy hu
      obtain ⟨x, hx, hfx⟩ := hf2 j y hy
      exact hfix x (List.mem_of_getElem? hx) y u hfx (hv3 j x u hx hu)
    have hrun : (fn.results.mapM (resM tm)).run P w = .ok vs.toArray w := by
      rw [Array.mapM_eq_mapM_toList]
      simp only [Functor.map, Sem.run_bind', hv1, Result.andThen_ok]
      rfl
    refine ⟨if h : vs.toArray.size = 1 then vs.toArray[0] else .tuple vs.toArray, I', ?_, ?_, fun g x hx => ?_⟩
    · rw [results_eq]
      simp only [Sem.run_bind, hrun, Result.andThen_ok, Sem.run_pure]
    · have hlen : ys.length = vs.length := by omega
      subst hr
      split
      · rename_i x
        have h1 : vs.length = 1 := by simpa using hlen.symm
        rw [dif_pos (by simpa using h1)]
        refine hrep 0 x _ rfl ?_
        simp
      · rename_i hne
        have h1 : ¬ vs.toArray.size = 1 := by
          intro h1
          simp at h1
          rw [h1] at hlen
          obtain ⟨x, rfl⟩ := List.length_eq_one_iff.1 hlen
          exact hne x rfl
        rw [dif_neg h1]
        exact .tup _ _ _ (by simpa using hlen) fun j c u hc hu => hrep j c u hc (by simpa using hu)
    · rcases hS'.immB g x hx with h1 | h1
      · exact .inl h1
      · exact .inr ⟨h1, hS'.immS g x hx⟩


/-- What a result may be weakened to: elements of its own known as a slice. -/
theorem contract_walk {Φ : Specs} (hg : Good P Φ) (K : List Nat) {f : FuncId} {fn : Func} {c : Code} {F : List V → Option V} (hf : P.funcs[f]? = some fn) (hb : fn.body = some c) (hok : okCode fn.ntmps c = true)
    (hp : ∀ xs r, F xs = some r → xs.length ≤ fn.ntmps) (h : ∀ C xs r, F xs = some r → walk P Φ C fn.ntmps K c ⟨pars xs, fun _ => .unborn, 0⟩ fun e s' => (e = .normal ∨ e = .ret) ∧ resF P fn.results.toList s' = some r) : Contract P f F := by
  intro I w args xs r hlen hrep hI hF
  refine calls_of_wp hf hb ?_
  have hsz := hp xs r hF
  refine wp_mono (walk_sound hg c _ _ (h ⟨I, w⟩ xs r hF) hok _ w (by simp; omega) rfl (start_simF (C := ⟨I, w⟩) hlen hrep hI)) ?_
  rintro e a' w' ⟨_, hd, s', ⟨he, hres⟩, γ, I', hS⟩
  obtain ⟨u, I2, hrun, hr, hI2⟩ := resG_run (fn := fn) hS hres
  have hpost : ∃ v, (results fn a'.tmps).run P w' = .ok v w' ∧ ∃ u, (Ending.returned v) = .returned u ∧ Below w.heap.size w w' ∧ Rep (fun g x => I g x ∨ (w.heap.size ≤ g ∧ g < w'.heap.size)) w' noPlaces r u :=
    ⟨u, hrun, u, rfl, hS.below, hr.mono (Pres.refl _ _) hI2 fun _ _ h => h⟩
  rcases he with rfl | rfl
  · exact ⟨hd, hpost⟩
  · exact ⟨hd, hpost⟩

end Go.Idl
