/- Bytes: the reader's data, TakeInt. -/
import Derived.Test.YteocedfakgdckaaDoorFld19p
namespace Go.Proofs.YteocedfakgdckaaDoor
set_option linter.all false
open Go.Idl
set_option maxHeartbeats 8000000
set_option maxRecDepth 100000
attribute [local go_sem] Tryd.underlying3 Tryd.underlying5 Tryd.underlying141 Tryd.underlying9 Tryd.underlying4
abbrev SClB : List V → Option V := FT fun (t : List UInt8 × Unit) => if t.1.length ≤ 10000000 then some t.1 else none
theorem con87 {Φ : Specs} (hg : Idl.Good Tryd.prog Φ) : Contract Tryd.prog 87 SClB := by
  refine conT hg k87 ic87 (by decide) fun C t r h => ?_
  obtain ⟨l, u⟩ := t
  dsimp only at h
  split at h
  case isFalse => cases h
  rename_i hl
  obtain rfl : l = r := Option.some.inj h
  simp +contextual only [go_sem, ↓reduceIte, Nat.reduceEqDiff, Nat.reduceAdd, Nat.reduceLeDiff, Nat.reduceLT, reduceCtorEq, c87, k87]
  refine stepI_nil Tryd.underlying22 rfl fun b hb => ?_
  have b1 : l.length ≤ 68719476736 := by omega
  have b2 : l.length ≤ 4294967296 := by omega
  cases b with
  | true =>
    have h0 : l = [] := by simpa using hb rfl
    subst h0
    simp +contextual only [go_sem, ↓reduceIte, Nat.reduceEqDiff, Nat.reduceAdd, Nat.reduceLeDiff, Nat.reduceLT, reduceCtorEq, k87]
  | false =>
    simp +contextual only [go_sem, ↓reduceIte, Nat.reduceEqDiff, Nat.reduceAdd, Nat.reduceLeDiff, Nat.reduceLT, reduceCtorEq, k87, b1, b2, List.length_map, Nat.zero_add, Nat.mul_one, List.nil_append, List.drop_zero, Nat.le_refl, and_self, decL_enc Cod.dec_enc]
section
variable {H : Heap}
def sl3 (sz s : Nat) (es : List V) : Option Nat → Option Nat → Option Nat → Option (V × List (Nat × Idl.Obj))
  | some l, some r, some m => if l ≤ r ∧ r ≤ m ∧ m ≤ es.length then (if l = m then some (.mt, []) else if s = sz then some (.slice sz ((es.take r).drop l), []) else none) else none
  | _, _, _ => none
@[congr] theorem sl3_congr {sz s : Nat} {es : List V} {l l' r r' m m' : Option Nat} (h1 : l = l') (h2 : r = r') (h3 : m = m') : sl3 sz s es l r m = sl3 sz s es l' r' m' := by rw [h1, h2, h3]
@[go_sem ↓] theorem slI_slice3 (e : Option (V × List (Nat × Idl.Obj))) (sz s : Nat) (es : List V) (lo : Option V) (hi mx : V) : slI e H sz lo (some hi) (some mx) (.slice s es) = sl3 sz s es (bound 0 lo) (bound es.length (some hi)) (bound 0 (some mx)) := by
  simp only [slI, evSliceI, V.len, Option.bind_some]
  have hb : ∀ d, bound d (some mx) = bound 0 (some mx) := fun d => by
    cases mx with
    | sc u => cases u <;> rfl
    | _ => rfl
  cases bound 0 lo with
  | none => rfl
  | some l => cases bound es.length (some hi) with
    | none => rfl
    | some r =>
      simp only [Option.bind_some, hb]
      cases bound 0 (some mx) with
      | none => rfl
      | some m =>
        simp only [Option.bind_some, sl3, Option.isNone_some, Bool.false_eq_true, if_false, V.isSl, if_true]
@[go_sem ↓] theorem sl3_some (sz s : Nat) (es : List V) (l r m : Nat) : sl3 sz s es (some l) (some r) (some m) = if l ≤ r ∧ r ≤ m ∧ m ≤ es.length then (if l = m then some (.mt, []) else if s = sz then some (.slice sz ((es.take r).drop l), []) else none) else none := rfl
end
theorem lenNil {P : Program} {t e : TypeId} (h : P.underlying t = some (.slice e)) {τ : Nat → V} {k ty : Nat} (hx : τ k = .sc (.slice none 0 0)) :
    lenI P τ (pu (.call ⟨.builtin .len, #[.tmp k], #[t]⟩) ty) (.sc (.slice none 0 0)) = some (.sc (.int .i64 0), []) := by
  show evPure P (opd τ) _ = _
  refine evPure_of (v := .int .i64 0) ?_ (by simp [pu]) ?_
  · simp [pu, Op.operands, Call.operands, opd, hx, V.conc]
  · simp [pu, execOp, opd, hx, V.conc, runPure_bind, runPure_pure, runPure_underlying h, resolve, invoke, builtin, Builtin.len_, goInt]
theorem triH {P : Program} {C : Ctx} {N : Nat} {b : IC} {τ : Nat → V} {H : Heap} {n : Nat} {Q : Exit → SF → Prop} (h : ∀ H', H' = H → TriI P C N b ⟨τ, H', n⟩ Q) : TriI P C N b ⟨τ, H, n⟩ Q := h H rfl
theorem updH_upd {H : Heap} {k : Nat} {x y : Idl.Obj} : updH (updH H k x) k y = updH H k y := by
  funext i
  unfold updH
  split <;> rfl
theorem ct73 {Φ : Specs} (hg : Idl.Good Tryd.prog Φ) (hchk : Φ 71 = some SChk) (hcl : Φ 87 = some SClB) (h72 : Φ 72 = none) {C : Ctx} {H0 : Heap} {n r : Nat} {d tail : List UInt8} {τ : Nat → V} {K : V → SF → Prop}
    (hr : r < n) (hR : RdAt H0 r (encB d ++ tail)) (hd : d ≠ []) (hl : (encB d ++ tail).length ≤ 10000000)
    (hk : ∀ τ' n', n ≤ n' → K (.slice 1 (d.map Cod.enc)) ⟨τ', updH H0 r (rdV tail), n'⟩) :
    CallT Tryd.prog C 73 [.ref r 0 0] ⟨τ, H0, n⟩ K := by
  refine CallT.of_walk hg k73 ic73 (by simp) fun C' hlow => ?_
  have hdl : d.length ≤ 10000000 := by rw [encB] at hl; simp only [List.length_append] at hl; omega
  rw [encB, List.append_assoc] at hR hl
  simp +contextual only [go_sem, ↓reduceIte, Nat.reduceEqDiff, Nat.reduceAdd, Nat.reduceLeDiff, Nat.reduceLT, reduceCtorEq, c73, k73, h72]
  refine ct72 hg hchk hr hR ⟨by omega, by omega⟩ hl fun τ' n' hn => ?_
  have d1 : decide ((d.length : Int) ≥ 0) = true := by simp
  have d2 : decide ((d.length : Int) ≤ ((d ++ tail).length : Int)) = true := by simp; omega
  have d3 : d.length ≤ (d ++ tail).length := by simp
  have d4 : (0 = d.length) = False := by simp; exact fun h => hd (List.eq_nil_of_length_eq_zero h.symm)
  have t1 : List.take d.length ((d ++ tail).map Cod.enc) = d.map (Cod.enc (α := UInt8)) := by
    rw [← List.map_take]
    congr 1
    exact List.take_left' rfl
  have t2 : List.drop d.length ((d ++ tail).map Cod.enc) = tail.map (Cod.enc (α := UInt8)) := by
    rw [← List.map_drop]
    congr 1
    exact List.drop_left' rfl
  generalize d ++ tail = L at *
  simp +contextual only [go_sem, ↓reduceIte, Nat.reduceEqDiff, Nat.reduceAdd, Nat.reduceLeDiff, Nat.reduceLT, reduceCtorEq, k73, rdV, hchk, hcl, d1, d2, d3, d4, t1, t2, hdl, List.length_map, Nat.le_refl, and_self, List.drop_zero, Nat.zero_le, Int.natCast_nonneg, Int.toNat_natCast, Option.map_some, Option.map_none, decL_enc Cod.dec_enc]
  rw [updH_upd]
  exact hk _ _ (by omega)
theorem agInt : agOf Tryd.prog 3 = some none := by kernel_rfl
theorem agErr : agOf Tryd.prog 30 = some none := by kernel_rfl
attribute [local go_sem] agInt agErr
def decI (b : List UInt8) : Int := ((val7 b / 2 : Nat) : Int)
theorem decI_enc {m : Int} (h : okN m) : decI (encI m) = m := by
  have := h.1
  rw [decI, encI, val7_enc]
  omega
def intB (b : List UInt8) : Prop := ∃ m, okN m ∧ encI m = b
open Classical in
noncomputable abbrev STakI : List V → Option V := FT fun (t : List UInt8 × Unit) => if intB t.1 then some (decI t.1, (0 : Int)) else none
theorem con51 {Φ : Specs} (hg : Idl.Good Tryd.prog Φ) (hchk : Φ 71 = some SChk) (h72 : Φ 72 = none) : Contract Tryd.prog 51 STakI := by
  refine conD hg k51 ic51 (by decide) fun C t r h => ?_
  obtain ⟨b, u⟩ := t
  dsimp only at h
  split at h
  case isFalse => cases h
  rename_i hI
  obtain rfl := Option.some.inj h
  obtain ⟨m, hm, rfl⟩ := hI
  rw [decI_enc hm]
  simp +contextual only [go_sem, ↓reduceIte, Nat.reduceEqDiff, Nat.reduceAdd, Nat.reduceLeDiff, Nat.reduceLT, reduceCtorEq, c51a, c51b, k51, h72]
  refine ct72 hg hchk (tail := []) (by omega) ⟨_, rfl, by rw [List.append_nil]; rfl⟩ hm (by rw [List.append_nil]; have := encI_len hm; omega) fun τ' n' hn => ?_
  have d0 : ((((0 : Nat) : Int)) == 0) = true := rfl
  simp +contextual only [go_sem, ↓reduceIte, Nat.reduceEqDiff, Nat.reduceAdd, Nat.reduceLeDiff, Nat.reduceLT, reduceCtorEq, k51, rdV, hchk, List.map_nil, List.length_nil, d0]
end Go.Proofs.YteocedfakgdckaaDoor
namespace Go.Proofs.YteocedfakgdckaaDoor
set_option linter.all false
open Go.Idl
set_option maxHeartbeats 8000000
set_option maxRecDepth 100000
theorem agFs : agOf Tryd.prog 104 = some none := by kernel_rfl
attribute [local go_sem] Tryd.underlying3 Tryd.underlying5 Tryd.underlying141 Tryd.underlying9 Tryd.underlying4 agInt agErr agFs
def OkF (l : List FldD) : Prop := okTags 0 l ∧ l.length ≤ 256 ∧ (∀ f, f ∈ l → f.data ≠ []) ∧ (encFl l).length ≤ 1000000
theorem tags_nn : ∀ {b : Int} {l : List FldD}, 0 ≤ b → okTags b l → ∀ f, f ∈ l → 0 ≤ f.tag
  | _, [], _, _, f, hf => by cases hf
  | b, g :: l, h0, h, f, hf => by
    obtain ⟨h1, h2, h3⟩ := h
    rcases List.mem_cons.1 hf with rfl | hf
    · omega
    · exact tags_nn (by omega) h3 f hf
def fldB (b : List UInt8) : Prop := ∃ l, OkF l ∧ encFl l = b
open Classical in
noncomputable def decF (b : List UInt8) : List FldD := if h : fldB b then Classical.choose h else []
theorem decF_enc {l : List FldD} (h : OkF l) : decF (encFl l) = l := by
  have hb : fldB (encFl l) := ⟨l, h, rfl⟩
  unfold decF
  rw [dif_pos hb]
  obtain ⟨h1, h2⟩ := Classical.choose_spec hb
  exact encFl_inj (tags_nn (Int.le_refl 0) h1.1) (tags_nn (Int.le_refl 0) h.1) h2
open Classical in
noncomputable abbrev STakF : List V → Option V := FT fun (t : List UInt8 × Unit) => if fldB t.1 then some (decF t.1, (0 : Int)) else none
abbrev lvV (lo : Option Nat) (k : Nat) : V := match lo with | none => .sc (.slice none 0 0) | some id => .own id 0 k
def LvOk (H : Heap) (n sz : Nat) (lo : Option Nat) (acc : List V) : Prop := match lo with | none => acc = [] | some id => 3 ≤ id ∧ id < n ∧ H id = .live sz acc true
theorem isF_flds (l : List FldD) : (l.map Cod.enc).all V.isF = true := by
  simp only [List.all_map, List.all_eq_true]
  intro x _
  rfl
theorem tk_flds (l : List FldD) : List.take l.length (l.map Cod.enc) = l.map Cod.enc := List.take_of_length_le (by simp)
structure JF (acc : List FldD) (f : FldD) (tail : List UInt8) (lo : Option Nat) (S : Nat → Bool) (s : SF) : Prop where
  t2 : s.τ 2 = .ref 0 0 0
  t3 : s.τ 3 = .ref 1 0 0
  t4 : s.τ 4 = .ref 2 0 0
  t5 : s.τ 5 = .sc (.int .i64 f.tag)
  t6 : s.τ 6 = .sc (.int .i64 f.tag)
  h1 : s.H 1 = .live 1 [.sc (.int .i64 0)] true
  n3 : 3 ≤ s.n
  un : ∀ k, s.H (s.n + k) = .unborn
  k0 : S 0 = true → s.τ 28 = lvV lo acc.length
  k1 : S 1 = true → s.τ 29 = .sc (.int .i64 f.tag)
  k2 : S 2 = true → s.τ 30 = .slice 1 (f.data.map Cod.enc) ∧ RdAt s.H 2 tail
  k2' : S 2 = false → RdAt s.H 2 (encB f.data ++ tail)
  k3 : S 3 = true → s.τ 31 = .agg [.sc (.int .i64 f.tag), .slice 1 (f.data.map Cod.enc)]
  k4 : S 4 = true → ∃ kb, s.τ 32 = .own kb 0 1 ∧ 3 ≤ kb ∧ kb < s.n ∧ s.H kb = .live 2 [.agg [.sc (.int .i64 f.tag), .slice 1 (f.data.map Cod.enc)]] true ∧ (lo ≠ some kb)
  k5 : S 5 = true → ∃ kl, s.τ 33 = .own kl 0 (acc.length + 1) ∧ 3 ≤ kl ∧ kl < s.n ∧ s.H kl = .live 2 ((acc ++ [f]).map Cod.enc) true
  k5' : S 5 = false → LvOk s.H s.n 2 lo (acc.map Cod.enc)
  h0 : S 6 = false → s.H 0 = .live 1 [lvV lo acc.length] true
  h0' : S 6 = true → ∃ kl, s.H 0 = .live 1 [.own kl 0 (acc.length + 1)] true ∧ 3 ≤ kl ∧ kl < s.n ∧ s.H kl = .live 2 ((acc ++ [f]).map Cod.enc) true
  d5 : S 5 = true → S 0 = true ∧ S 4 = true
  d6 : S 6 = true → S 5 = true
structure TkF where
  acc : List FldD
  xs : List FldD
  before : Int
  lo : Option Nat
  n : Nat
  H : Heap
structure TkInv (l : List FldD) (p : TkF) : Prop where
  eq : l = p.acc ++ p.xs
  tg : okTags p.before p.xs
  bf : 0 ≤ p.before
  rd : RdAt p.H 2 (encFl p.xs)
  lv : LvOk p.H p.n 2 p.lo (p.acc.map Cod.enc)
  h0 : p.H 0 = .live 1 [lvV p.lo p.acc.length] true
  h1 : p.H 1 = .live 1 [.sc (.int .i64 0)] true
  n3 : 3 ≤ p.n
  un : ∀ k, p.H (p.n + k) = .unborn
abbrev regF : IC := .any [0, 0, 0, 6, 14, 31, 63]
      [{ d := some 28, g := none, io := Ins.ld none (A.t 2) }, { d := some 29, g := none, io := Ins.mv (A.t 6) },
        { d := some 30, g := none, io := Ins.call 73 [A.t 4] },
        { d := some 31, g := none, io := Ins.bld [V.sc (Value.int IntKind.i64 0), V.sc (Value.slice none 0 0)] [(0, 1, A.t 29), (1, 1, A.t 30)] },
        { d := some 32, g := none, io := Ins.bsl 2 1 true [V.sc (Value.int IntKind.i64 0), V.sc (Value.slice none 0 0)] [(0, 2, A.t 31)] },
        { d := some 33, g := none, io := Ins.app 2 32 (A.t 28) (A.t 32) },
        { d := none, g := none, io := Ins.st 1 (A.t 2) (A.t 33) }]
theorem lv_cells (lo : Option Nat) (k : Nat) : (lvV lo k).cells = [lvV lo k] := by cases lo <;> rfl
theorem regF_ok {Φ : Specs} (hg : Idl.Good Tryd.prog Φ) (hchk : Φ 71 = some SChk) (hcl : Φ 87 = some SClB) (h72 : Φ 72 = none) (h73 : Φ 73 = none) {C : Ctx} {K : List Nat} {s : SF} {Q : Exit → SF → Prop} {acc : List FldD} {f : FldD} {tail : List UInt8} {lo : Option Nat}
    (hd : f.data ≠ []) (hl : (encB f.data ++ tail).length ≤ 10000000) (hal : acc.length < 256) (hac : lo = none → acc = []) (hJ : JF acc f tail lo (fun _ => false) s)
    (hQ : ∀ s S, (∀ k, k < 7 → S k = true) → JF acc f tail lo S s → Q .normal ⟨prune K s.τ, s.H, s.n⟩) : TriI Tryd.prog C 35 regF s Q := by
  refine TriI.orders hg K (fun S s => JF acc f tail lo S s) hJ ?_ (fun S s h1 h2 => hQ s S h1 h2)
  rintro S ⟨τ, H, m⟩ j o ho hj hbf hJ
  obtain ⟨t2, t3, t4, t5, t6, h1, n3, un, k0, k1, k2, k2', k3, k4, k5, k5', h0, h0', d5, d6⟩ := hJ
  dsimp only at t2 t3 t4 t5 t6 h1 n3 un k0 k1 k2 k2' k3 k4 k5 k5' h0 h0' d5 d6
  have hu : H m = .unborn := un 0
  have hun1 : ∀ k, H (m + 1 + k) = .unborn := fun k => by rw [Nat.add_assoc]; exact un _
  match j, ho with
  | 0, ho =>
    have := Option.some.inj ho
    subst this
    have h6 : S 6 = false := by
      cases h6 : S 6 with
      | true => have := (d5 (d6 h6)).1; rw [hj] at this; cases this
      | false => rfl
    have h00 := h0 h6
    obtain ⟨lv, hlv⟩ : ∃ lv, lv = lvV lo acc.length := ⟨_, rfl⟩
    have hlc := lv_cells lo acc.length
    rw [← hlv] at h00 hlc
    simp only [V.cells] at hlc
    simp +contextual only [go_sem, ↓reduceIte, Nat.reduceEqDiff, Nat.reduceAdd, Nat.reduceLeDiff, Nat.reduceLT, reduceCtorEq, t2, h00, hlc]
    exact ⟨t2, t3, t4, t5, t6, h1, n3, un, fun _ => hlv, k1, k2, k2', k3, k4, k5, k5', h0, h0', fun h => ⟨rfl, (d5 h).2⟩, d6⟩
  | 1, ho =>
    have := Option.some.inj ho
    subst this
    simp +contextual only [go_sem, ↓reduceIte, Nat.reduceEqDiff, Nat.reduceAdd, Nat.reduceLeDiff, Nat.reduceLT, reduceCtorEq, t6]
    exact ⟨t2, t3, t4, t5, t6, h1, n3, un, k0, fun _ => rfl, k2, k2', k3, k4, k5, k5', h0, h0', d5, d6⟩
  | 2, ho =>
    have := Option.some.inj ho
    subst this
    simp +contextual only [go_sem, ↓reduceIte, Nat.reduceEqDiff, Nat.reduceAdd, Nat.reduceLeDiff, Nat.reduceLT, reduceCtorEq, t4, h73]
    refine ct73 hg hchk hcl h72 (by omega) (k2' hj) hd hl fun τ' n' hn' => ?_
    simp +contextual only [go_sem, ↓reduceIte, Nat.reduceEqDiff, Nat.reduceAdd, Nat.reduceLeDiff, Nat.reduceLT, reduceCtorEq]
    have un' : ∀ k, H (n' + k) = .unborn := fun k => by
      have := un (n' - m + k)
      rwa [show m + (n' - m + k) = n' + k by omega] at this
    have hrd : RdAt (updH H 2 (rdV tail)) 2 tail := ⟨_, updH_at, rfl⟩
    refine ⟨t2, t3, t4, t5, t6, h1, by dsimp only; omega, fun k => (updH_ne (by dsimp only; omega)).trans (un' k), k0, k1, fun _ => ⟨rfl, hrd⟩, fun h => Bool.noConfusion (show true = false from h), k3, fun h => ?_, fun h => ?_, fun h => ?_, h0, fun h => ?_, d5, d6⟩
    · obtain ⟨kb, e1, e2, e3, e4, e5⟩ := k4 h
      exact ⟨kb, e1, e2, by dsimp only; omega, (updH_ne (by omega)).trans e4, e5⟩
    · obtain ⟨kb, e1, e2, e3, e4⟩ := k5 h
      exact ⟨kb, e1, e2, by dsimp only; omega, (updH_ne (by omega)).trans e4⟩
    · have h := k5' h
      cases lo with
      | none => exact h
      | some id =>
        obtain ⟨q1, q2, q3⟩ := h
        exact ⟨q1, by dsimp only; omega, (updH_ne (by omega)).trans q3⟩
    · obtain ⟨kb, e1, e2, e3, e4⟩ := h0' h
      exact ⟨kb, e1, e2, by dsimp only; omega, (updH_ne (by omega)).trans e4⟩
  | 3, ho =>
    have := Option.some.inj ho
    subst this
    simp +contextual only [go_sem, ↓reduceIte, Nat.reduceEqDiff, Nat.reduceAdd, Nat.reduceLeDiff, Nat.reduceLT, reduceCtorEq, k1 (hbf 1 (by decide)), (k2 (hbf 2 (by decide))).1]
    exact ⟨t2, t3, t4, t5, t6, h1, n3, un, k0, k1, k2, k2', fun _ => rfl, k4, k5, k5', h0, h0', d5, d6⟩
  | 4, ho =>
    have := Option.some.inj ho
    subst this
    simp +contextual only [go_sem, ↓reduceIte, Nat.reduceEqDiff, Nat.reduceAdd, Nat.reduceLeDiff, Nat.reduceLT, reduceCtorEq, k3 (hbf 3 (by decide)), hu]
    refine ⟨t2, t3, t4, t5, t6, (updH_ne (by omega)).trans h1, by dsimp only; omega, fun k => (updH_ne (by dsimp only; omega)).trans (hun1 k), k0, k1, fun h => ⟨(k2 h).1, ?_⟩, fun h => ?_, k3, fun _ => ⟨m, rfl, n3, Nat.lt_succ_self _, updH_at, ?_⟩, fun h => ?_, fun h => ?_, fun h => (updH_ne (by omega)).trans (h0 h), fun h => ?_, fun h => ⟨(d5 h).1, rfl⟩, d6⟩
    · obtain ⟨e, e1, e2⟩ := (k2 h).2
      exact ⟨e, (updH_ne (by omega)).trans e1, e2⟩
    · obtain ⟨e, e1, e2⟩ := k2' h
      exact ⟨e, (updH_ne (by omega)).trans e1, e2⟩
    · intro he
      have h5 : S 5 = false := by
        cases h5 : S 5 with
        | true => have := (d5 h5).2; rw [hj] at this; cases this
        | false => rfl
      have h := k5' h5
      subst he
      have := h.2.1
      omega
    · obtain ⟨kb, e1, e2, e3, e4⟩ := k5 h
      exact ⟨kb, e1, e2, by dsimp only; omega, (updH_ne (by omega)).trans e4⟩
    · have h := k5' h
      cases lo with
      | none => exact h
      | some id =>
        obtain ⟨q1, q2, q3⟩ := h
        exact ⟨q1, by dsimp only; omega, (updH_ne (by omega)).trans q3⟩
    · obtain ⟨kb, e1, e2, e3, e4⟩ := h0' h
      exact ⟨kb, (updH_ne (by omega)).trans e1, e2, by dsimp only; omega, (updH_ne (by omega)).trans e4⟩
  | 5, ho =>
    have := Option.some.inj ho
    subst this
    have a0 := k0 (hbf 0 (by decide))
    obtain ⟨kb, e1, e2, e3, e4, e5⟩ := k4 (hbf 4 (by decide))
    have h6 : S 6 = false := by
      cases h6 : S 6 with
      | true => have := d6 h6; rw [hj] at this; cases this
      | false => rfl
    have hlv := k5' hj
    have b1 : (acc.length + 1) * 32 ≤ 68719476736 := by omega
    have b2 : acc.length + 1 ≤ 4294967296 := by omega
    cases lo with
    | none =>
      have := hac rfl
      subst this
      have hok : okE 2 (.agg [.sc (.int .i64 f.tag), .slice 1 (f.data.map Cod.enc)]) = true := rfl
      simp +contextual only [go_sem, ↓reduceIte, Nat.reduceEqDiff, Nat.reduceAdd, Nat.reduceLeDiff, Nat.reduceLT, reduceCtorEq, a0, e1, e4, hu, lvV, hok, Nat.mul_one, Nat.one_mul]
      refine ⟨t2, t3, t4, t5, t6, (updH_ne (by omega)).trans h1, by dsimp only; omega, fun k => (updH_ne (by dsimp only; omega)).trans (hun1 k), k0, k1, fun h => ⟨(k2 h).1, ?_⟩, fun h => ?_, k3, fun _ => ⟨kb, e1, e2, by dsimp only; omega, (updH_ne (by omega)).trans e4, e5⟩, fun _ => ⟨m, rfl, n3, Nat.lt_succ_self _, updH_at⟩, fun h => Bool.noConfusion (show true = false from h), fun h => (updH_ne (by omega)).trans (h0 h), fun h => ?_, fun _ => ⟨hbf 0 (by decide), hbf 4 (by decide)⟩, fun _ => rfl⟩
      · obtain ⟨e, x1, x2⟩ := (k2 h).2
        exact ⟨e, (updH_ne (by omega)).trans x1, x2⟩
      · obtain ⟨e, x1, x2⟩ := k2' h
        exact ⟨e, (updH_ne (by omega)).trans x1, x2⟩
      · have h : S 6 = true := h
        rw [h6] at h; cases h
    | some id =>
      obtain ⟨q1, q2, q3⟩ := hlv
      have y1 : (kb = m) = False := by simp; omega
      have hok : okE 2 (.agg [.sc (.int .i64 f.tag), .slice 1 (f.data.map Cod.enc)]) = true := rfl
      simp +contextual only [go_sem, ↓reduceIte, Nat.reduceEqDiff, Nat.reduceAdd, Nat.reduceLeDiff, Nat.reduceLT, reduceCtorEq, a0, e1, e4, hu, lvV, q3, hok, y1, Nat.mul_one, Nat.one_mul, b1, b2, Nat.zero_add, List.length_map]
      have hkb : kb ≠ id := fun h => e5 (by rw [h])
      have hcat : (acc.map Cod.enc ++ [.agg [.sc (.int .i64 f.tag), .slice 1 (f.data.map Cod.enc)]] : List V) = (acc ++ [f]).map Cod.enc := by rw [List.map_append]; rfl
      rw [hcat]
      refine ⟨t2, t3, t4, t5, t6, (updH_ne (by omega)).trans ((updH_ne (by omega)).trans h1), by dsimp only; omega, fun k => (updH_ne (by dsimp only; omega)).trans ((updH_ne (by dsimp only; omega)).trans (hun1 k)), k0, k1, fun h => ⟨(k2 h).1, ?_⟩, fun h => ?_, k3, fun _ => ⟨kb, e1, e2, by dsimp only; omega, (updH_ne (by omega)).trans ((updH_ne hkb).trans e4), e5⟩, fun _ => ⟨m, rfl, n3, Nat.lt_succ_self _, updH_at⟩, fun h => Bool.noConfusion (show true = false from h), fun h => (updH_ne (by omega)).trans ((updH_ne (by omega)).trans (h0 h)), fun h => ?_, fun _ => ⟨hbf 0 (by decide), hbf 4 (by decide)⟩, fun _ => rfl⟩
      · obtain ⟨e, x1, x2⟩ := (k2 h).2
        exact ⟨e, (updH_ne (by omega)).trans ((updH_ne (by omega)).trans x1), x2⟩
      · obtain ⟨e, x1, x2⟩ := k2' h
        exact ⟨e, (updH_ne (by omega)).trans ((updH_ne (by omega)).trans x1), x2⟩
      · have h : S 6 = true := h
        rw [h6] at h; cases h
  | 6, ho =>
    have := Option.some.inj ho
    subst this
    obtain ⟨kl, e1, e2, e3, e4⟩ := k5 (hbf 5 (by decide))
    have h00 := h0 hj
    have hlc := lv_cells lo acc.length
    generalize lvV lo acc.length = lv at h00 hlc
    simp only [V.cells] at hlc
    simp +contextual only [go_sem, ↓reduceIte, Nat.reduceEqDiff, Nat.reduceAdd, Nat.reduceLeDiff, Nat.reduceLT, reduceCtorEq, t2, e1, h00, hlc, List.length_cons, List.length_nil]
    have hun0 : ∀ k, updH H 0 (.live 1 [.own kl 0 (acc.length + 1)] true) (m + 1 + k) = .unborn := fun k => (updH_ne (by omega)).trans (hun1 k)
    have hkl : updH H 0 (.live 1 [.own kl 0 (acc.length + 1)] true) kl = .live 2 ((acc ++ [f]).map Cod.enc) true := (updH_ne (by omega)).trans e4
    refine ⟨t2, t3, t4, t5, t6, h1, by dsimp only; omega, hun0, k0, k1, k2, k2', k3, fun h => ?_, fun _ => ⟨kl, e1, e2, by dsimp only; omega, hkl⟩, fun h => ?_, fun h => Bool.noConfusion (show true = false from h), fun _ => ⟨kl, rfl, e2, by dsimp only; omega, hkl⟩, d5, fun _ => hbf 5 (by decide)⟩
    · obtain ⟨kb, x1, x2, x3, x4, x5⟩ := k4 h
      exact ⟨kb, x1, x2, by dsimp only; omega, (updH_ne (by omega)).trans x4, x5⟩
    · have h : S 5 = false := h
      rw [hbf 5 (by decide)] at h; cases h
  | j + 7, ho => cases ho
theorem con50 {Φ : Specs} (hg : Idl.Good Tryd.prog Φ) (hchk : Φ 71 = some SChk) (hcl : Φ 87 = some SClB) (h72 : Φ 72 = none) (h73 : Φ 73 = none) : Contract Tryd.prog 50 STakF := by
  refine conD hg k50 ic50 (by decide) fun C t r h => ?_
  obtain ⟨b, u⟩ := t
  dsimp only at h
  split at h
  case isFalse => cases h
  rename_i hI
  obtain rfl := Option.some.inj h
  obtain ⟨l, hl, rfl⟩ := hI
  rw [decF_enc hl]
  obtain ⟨hT, hn, hne, hs⟩ := hl
  simp +contextual only [go_sem, ↓reduceIte, Nat.reduceEqDiff, Nat.reduceAdd, Nat.reduceLeDiff, Nat.reduceLT, reduceCtorEq, c50a, c50b, k50]
  refine triH fun H1 hH1 => ?_
  refine TriI.loopA hg k50 (fun p : TkF => ⟨slotsL [(2, .ref 0 0 0), (3, .ref 1 0 0), (4, .ref 2 0 0), (5, .sc (.int .i64 p.before))], p.H, p.n⟩) (TkInv l) (fun p => p.xs.length) ⟨[], l, 0, none, 3, H1⟩ (.slots ?_) ⟨rfl, hT, Int.le_refl _, ?_, rfl, ?_, ?_, Nat.le_refl _, fun k => ?_⟩ ?_
  · simp +contextual only [go_sem, ↓reduceIte, Nat.reduceEqDiff, Nat.reduceAdd, Nat.reduceLeDiff, Nat.reduceLT, reduceCtorEq]
  · exact ⟨_, by dsimp only; rw [hH1]; exact updH_at, rfl⟩
  · dsimp only; rw [hH1]; (repeat (first | exact updH_at | refine (updH_ne (by omega)).trans ?_))
  · dsimp only; rw [hH1]; (repeat (first | exact updH_at | refine (updH_ne (by omega)).trans ?_))
  · dsimp only; rw [hH1]; (repeat (refine (updH_ne (by omega)).trans ?_)); rfl
  · rintro ⟨acc, xs, before, lo, n, H⟩ hinv
    obtain ⟨g1, g2, g3, g4, g5, g6, g7, g8, g9⟩ := hinv
    dsimp only at g1 g2 g3 g4 g5 g6 g7 g8 g9 ⊢
    obtain ⟨e0, hR, hc0⟩ := g4
    have hc0' := hc0
    simp only [V.cells] at hc0
    cases xs with
    | nil =>
      rw [List.append_nil] at g1
      subst g1
      have z0 : decide (((0 : Nat) : Int) > 0) = false := rfl
      cases lo with
      | none =>
        have hl0 : l = [] := by
          have : l.map (Cod.enc (α := FldD)) = [] := g5
          simpa using this
        subst hl0
        simp +contextual only [go_sem, ↓reduceIte, Nat.reduceEqDiff, Nat.reduceAdd, Nat.reduceLeDiff, Nat.reduceLT, reduceCtorEq, k50, hR, hc0, z0, encFl, List.map_nil, List.length_nil, g6, g7, lvV]
      | some id =>
        obtain ⟨q1, q2, q3⟩ := g5
        have y0 : (id = 0) = False := by simp; omega
        have y1 : (id = 1) = False := by simp; omega
        simp +contextual only [go_sem, ↓reduceIte, Nat.reduceEqDiff, Nat.reduceAdd, Nat.reduceLeDiff, Nat.reduceLT, reduceCtorEq, k50, hR, hc0, z0, encFl, List.map_nil, List.length_nil, g6, g7, lvV, q3, y0, y1, isF_flds, List.length_map, Nat.zero_add, Nat.le_refl, and_self, tk_flds, decL_enc Cod.dec_enc]
    | cons f xs =>
      obtain ⟨t1, t2', t3'⟩ := g2
      have hfd : f.data ≠ [] := hne f (by rw [g1]; simp)
      have hal : acc.length < 256 := by have := congrArg List.length g1; simp at this; omega
      have hel : (encFl (f :: xs)).length ≤ 1000000 := by
        have h1 := congrArg (fun l => (encFl l).length) g1
        have h2 : ∀ a b : List FldD, (encFl b).length ≤ (encFl (a ++ b)).length := fun a b => by
          induction a with
          | nil => simp
          | cons y a ih => rw [List.cons_append, encFl]; simp only [List.length_append]; omega
        have := h2 acc (f :: xs)
        omega
      have hT1 : okN f.tag := ⟨by omega, by omega⟩
      rw [encFl, List.append_assoc] at hc0 hc0' hel
      have z0 : 0 < (encI f.tag).length := enc7_pos _
      have z1 : decide (((encI f.tag ++ (encB f.data ++ encFl xs)).length : Int) > 0) = true := by
        rw [List.length_append, decide_eq_true_eq]; omega
      have z2 : decide ((acc.length : Int) < 256) = true := by simp; omega
      have z2' : decide ((0 : Int) < 256) = true := rfl
      have z3 : decide (f.tag > before) = true := by simp; omega
      have z4 : decide (f.tag ≤ 1000) = true := by simp; omega
      have hacc0 : lo = none → acc = [] := fun h => by
        subst h
        have : acc.map (Cod.enc (α := FldD)) = [] := g5
        simpa using this
      have key : ∀ (τ : Nat → V) (n' : Nat), n ≤ n' → τ 2 = .ref 0 0 0 → τ 3 = .ref 1 0 0 → τ 4 = .ref 2 0 0 → τ 5 = .sc (.int .i64 f.tag) → τ 6 = .sc (.int .i64 f.tag) →
          JF acc f (encFl xs) lo (fun _ => false) ⟨τ, updH H 2 (rdV (encB f.data ++ encFl xs)), n'⟩ := fun τ n' hn' e2 e3 e4 e5 e6 => by
        have g9' : ∀ k, H (n' + k) = .unborn := fun k => by
          have := g9 (n' - n + k)
          rwa [show n + (n' - n + k) = n' + k by omega] at this
        have hrd : RdAt (updH H 2 (rdV (encB f.data ++ encFl xs))) 2 (encB f.data ++ encFl xs) := ⟨_, updH_at, rfl⟩
        refine ⟨e2, e3, e4, e5, e6, g7, by dsimp only; omega, fun k => (updH_ne (by dsimp only; omega)).trans (g9' k), nofun, nofun, nofun, fun _ => hrd, nofun, nofun, nofun, fun _ => ?_, fun _ => g6, nofun, nofun, nofun⟩
        cases lo with
        | none => exact g5
        | some id =>
          obtain ⟨q1, q2, q3⟩ := g5
          exact ⟨q1, by dsimp only; omega, (updH_ne (by omega)).trans q3⟩
      cases lo with
      | none =>
        have := hacc0 rfl
        subst this
        simp +contextual only [go_sem, ↓reduceIte, Nat.reduceEqDiff, Nat.reduceAdd, Nat.reduceLeDiff, Nat.reduceLT, reduceCtorEq, k50, hR, hc0, z1, z2', lenNil Tryd.underlying104, List.length_map, List.length_nil, g6, g7, lvV, h72, hchk]
        refine ct72 hg hchk (r := 2) (n := n) (by omega) ⟨e0, hR, hc0'⟩ hT1 (by omega) fun τ' n' hn' => ?_
        simp +contextual only [go_sem, ↓reduceIte, Nat.reduceEqDiff, Nat.reduceAdd, Nat.reduceLeDiff, Nat.reduceLT, reduceCtorEq, k50, hchk, z3, z4]
        refine regF_ok (K := k50) hg hchk hcl h72 h73 (lo := none) (acc := []) hfd (by rw [List.length_append] at hel; omega) hal hacc0 (key _ _ hn' rfl rfl rfl rfl rfl) fun s S hS hJ => ?_
        obtain ⟨τ, H2, m⟩ := s
        obtain ⟨t2, t3, t4, t5, t6, h1, n3, un, k0, k1, k2, k2', k3, k4, k5, k5', h0, h0', d5, d6⟩ := hJ
        obtain ⟨kl, e1, e2, e3, e4⟩ := h0' (hS 6 (by decide))
        have e5 := (k2 (hS 2 (by decide))).2
        dsimp only at t2 t3 t4 t5 h1 n3 un e1 e2 e3 e4 e5 ⊢
        simp +contextual only [go_sem, ↓reduceIte, Nat.reduceEqDiff, Nat.reduceAdd, Nat.reduceLeDiff, Nat.reduceLT, reduceCtorEq, k50]
        refine ⟨⟨[] ++ [f], xs, f.tag, some kl, m, H2⟩, by dsimp only; rw [List.length_cons]; omega, ⟨by rw [g1]; simp, t3', by dsimp only; omega, e5, ⟨e2, e3, e4⟩, ?_, h1, n3, un⟩, .slots ?_⟩
        · dsimp only
          rw [e1, List.length_append]; rfl
        · simp +contextual only [go_sem, ↓reduceIte, Nat.reduceEqDiff, Nat.reduceAdd, Nat.reduceLeDiff, Nat.reduceLT, reduceCtorEq, t2, t3, t4, t5]
      | some id =>
        simp +contextual only [go_sem, ↓reduceIte, Nat.reduceEqDiff, Nat.reduceAdd, Nat.reduceLeDiff, Nat.reduceLT, reduceCtorEq, k50, hR, hc0, z1, z2, List.length_map, g6, g7, lvV, h72, hchk]
        refine ct72 hg hchk (r := 2) (n := n) (by omega) ⟨e0, hR, hc0'⟩ hT1 (by omega) fun τ' n' hn' => ?_
        simp +contextual only [go_sem, ↓reduceIte, Nat.reduceEqDiff, Nat.reduceAdd, Nat.reduceLeDiff, Nat.reduceLT, reduceCtorEq, k50, hchk, z3, z4]
        refine regF_ok (K := k50) hg hchk hcl h72 h73 (lo := some id) (acc := acc) hfd (by rw [List.length_append] at hel; omega) hal hacc0 (key _ _ hn' rfl rfl rfl rfl rfl) fun s S hS hJ => ?_
        obtain ⟨τ, H2, m⟩ := s
        obtain ⟨t2, t3, t4, t5, t6, h1, n3, un, k0, k1, k2, k2', k3, k4, k5, k5', h0, h0', d5, d6⟩ := hJ
        obtain ⟨kl, e1, e2, e3, e4⟩ := h0' (hS 6 (by decide))
        have e5 := (k2 (hS 2 (by decide))).2
        dsimp only at t2 t3 t4 t5 h1 n3 un e1 e2 e3 e4 e5 ⊢
        simp +contextual only [go_sem, ↓reduceIte, Nat.reduceEqDiff, Nat.reduceAdd, Nat.reduceLeDiff, Nat.reduceLT, reduceCtorEq, k50]
        refine ⟨⟨acc ++ [f], xs, f.tag, some kl, m, H2⟩, by dsimp only; rw [List.length_cons]; omega, ⟨by rw [g1]; simp, t3', by dsimp only; omega, e5, ⟨e2, e3, e4⟩, ?_, h1, n3, un⟩, .slots ?_⟩
        · dsimp only
          rw [e1, List.length_append]; rfl
        · simp +contextual only [go_sem, ↓reduceIte, Nat.reduceEqDiff, Nat.reduceAdd, Nat.reduceLeDiff, Nat.reduceLT, reduceCtorEq, t2, t3, t4, t5]
end Go.Proofs.YteocedfakgdckaaDoor
namespace Go.Proofs.YteocedfakgdckaaDoor
set_option linter.all false
open Go.Idl
set_option maxHeartbeats 8000000
set_option maxRecDepth 100000
theorem agLs : agOf Tryd.prog 98 = some none := by kernel_rfl
attribute [local go_sem] Tryd.underlying3 Tryd.underlying5 Tryd.underlying141 Tryd.underlying9 Tryd.underlying4 agInt agErr agLs
def OkLs (l : List (List UInt8)) : Prop := l.length ≤ 256 ∧ (∀ f, f ∈ l → f ≠ []) ∧ (encL l).length ≤ 1000000
def lstB (b : List UInt8) : Prop := ∃ l, OkLs l ∧ encL l = b
open Classical in
noncomputable def decLs (b : List UInt8) : List (List UInt8) := if h : lstB b then Classical.choose h else []
theorem decLs_enc {l : List (List UInt8)} (h : OkLs l) : decLs (encL l) = l := by
  have hb : lstB (encL l) := ⟨l, h, rfl⟩
  unfold decLs
  rw [dif_pos hb]
  exact encL_inj (Classical.choose_spec hb).2
open Classical in
noncomputable abbrev STakL : List V → Option V := FT fun (t : List UInt8 × Unit) => if lstB t.1 then some (decLs t.1, (0 : Int)) else none
theorem isF_lst (l : List (List UInt8)) : (l.map Cod.enc).all V.isF = true := by
  simp only [List.all_map, List.all_eq_true]
  intro x _
  rfl
theorem tk_lst (l : List (List UInt8)) : List.take l.length (l.map Cod.enc) = l.map Cod.enc := List.take_of_length_le (by simp)
structure JL (N i : Int) (acc : List (List UInt8)) (f : List UInt8) (tail : List UInt8) (lo : Option Nat) (S : Nat → Bool) (s : SF) : Prop where
  t2 : s.τ 2 = .ref 0 0 0
  t3 : s.τ 3 = .ref 1 0 0
  t4 : s.τ 4 = .ref 2 0 0
  t5 : s.τ 16 = .sc (.int .i64 N)
  t6 : s.τ 17 = .sc (.int .i64 i)
  h1 : s.H 1 = .live 1 [.sc (.int .i64 0)] true
  n3 : 3 ≤ s.n
  un : ∀ k, s.H (s.n + k) = .unborn
  k0 : S 0 = true → s.τ 19 = lvV lo acc.length
  k2 : S 1 = true → s.τ 20 = .slice 1 (f.map Cod.enc) ∧ RdAt s.H 2 tail
  k2' : S 1 = false → RdAt s.H 2 (encB f ++ tail)
  k4 : S 2 = true → ∃ kb, s.τ 21 = .own kb 0 1 ∧ 3 ≤ kb ∧ kb < s.n ∧ s.H kb = .live 1 [.slice 1 (f.map Cod.enc)] true ∧ (lo ≠ some kb)
  k5 : S 3 = true → ∃ kl, s.τ 22 = .own kl 0 (acc.length + 1) ∧ 3 ≤ kl ∧ kl < s.n ∧ s.H kl = .live 1 ((acc ++ [f]).map Cod.enc) true
  k5' : S 3 = false → LvOk s.H s.n 1 lo (acc.map Cod.enc)
  h0 : S 4 = false → s.H 0 = .live 1 [lvV lo acc.length] true
  h0' : S 4 = true → ∃ kl, s.H 0 = .live 1 [.own kl 0 (acc.length + 1)] true ∧ 3 ≤ kl ∧ kl < s.n ∧ s.H kl = .live 1 ((acc ++ [f]).map Cod.enc) true
  d5 : S 3 = true → S 0 = true ∧ S 2 = true
  d6 : S 4 = true → S 3 = true
abbrev regL : IC := .any [0, 0, 2, 7, 15] [⟨(some 19), none, .ld none (.t 2)⟩, 
  ⟨(some 20), none, .call 73 [(.t 4)]⟩, 
  ⟨(some 21), none, .bsl 1 1 false [(.sc (.slice none 0 0))] [(0, 1, (.t 20))]⟩, 
  ⟨(some 22), none, .app 1 24 (.t 19) (.t 21)⟩, 
  ⟨none, none, .st 1 (.t 2) (.t 22)⟩]
theorem regL_ok {Φ : Specs} (hg : Idl.Good Tryd.prog Φ) (hchk : Φ 71 = some SChk) (hcl : Φ 87 = some SClB) (h72 : Φ 72 = none) (h73 : Φ 73 = none) {C : Ctx} {K : List Nat} {s : SF} {Q : Exit → SF → Prop} {N i : Int} {acc : List (List UInt8)} {f : List UInt8} {tail : List UInt8} {lo : Option Nat}
    (hd : f ≠ []) (hl : (encB f ++ tail).length ≤ 10000000) (hal : acc.length ≤ 256) (hac : lo = none → acc = []) (hJ : JL N i acc f tail lo (fun _ => false) s)
    (hQ : ∀ s S, (∀ k, k < 5 → S k = true) → JL N i acc f tail lo S s → Q .normal ⟨prune K s.τ, s.H, s.n⟩) : TriI Tryd.prog C 30 regL s Q := by
  refine TriI.orders hg K (fun S s => JL N i acc f tail lo S s) hJ ?_ (fun S s h1 h2 => hQ s S h1 h2)
  rintro S ⟨τ, H, m⟩ j o ho hj hbf hJ
  obtain ⟨t2, t3, t4, t5, t6, h1, n3, un, k0, k2, k2', k4, k5, k5', h0, h0', d5, d6⟩ := hJ
  dsimp only at t2 t3 t4 t5 t6 h1 n3 un k0 k2 k2' k4 k5 k5' h0 h0' d5 d6
  have hu : H m = .unborn := un 0
  have hun1 : ∀ k, H (m + 1 + k) = .unborn := fun k => by rw [Nat.add_assoc]; exact un _
  match j, ho with
  | 0, ho =>
    have := Option.some.inj ho
    subst this
    have h6 : S 4 = false := by
      cases h6 : S 4 with
      | true => have := (d5 (d6 h6)).1; rw [hj] at this; cases this
      | false => rfl
    have h00 := h0 h6
    obtain ⟨lv, hlv⟩ : ∃ lv, lv = lvV lo acc.length := ⟨_, rfl⟩
    have hlc := lv_cells lo acc.length
    rw [← hlv] at h00 hlc
    simp only [V.cells] at hlc
    simp +contextual only [go_sem, ↓reduceIte, Nat.reduceEqDiff, Nat.reduceAdd, Nat.reduceLeDiff, Nat.reduceLT, reduceCtorEq, t2, h00, hlc]
    exact ⟨t2, t3, t4, t5, t6, h1, n3, un, fun _ => hlv, k2, k2', k4, k5, k5', h0, h0', fun h => ⟨rfl, (d5 h).2⟩, d6⟩
  | 1, ho =>
    have := Option.some.inj ho
    subst this
    simp +contextual only [go_sem, ↓reduceIte, Nat.reduceEqDiff, Nat.reduceAdd, Nat.reduceLeDiff, Nat.reduceLT, reduceCtorEq, t4, h73]
    refine ct73 hg hchk hcl h72 (by omega) (k2' hj) hd hl fun τ' n' hn' => ?_
    simp +contextual only [go_sem, ↓reduceIte, Nat.reduceEqDiff, Nat.reduceAdd, Nat.reduceLeDiff, Nat.reduceLT, reduceCtorEq]
    have un' : ∀ k, H (n' + k) = .unborn := fun k => by
      have := un (n' - m + k)
      rwa [show m + (n' - m + k) = n' + k by omega] at this
    have hrd : RdAt (updH H 2 (rdV tail)) 2 tail := ⟨_, updH_at, rfl⟩
    refine ⟨t2, t3, t4, t5, t6, h1, by dsimp only; omega, fun k => (updH_ne (by dsimp only; omega)).trans (un' k), k0, fun _ => ⟨rfl, hrd⟩, fun h => Bool.noConfusion (show true = false from h), fun h => ?_, fun h => ?_, fun h => ?_, h0, fun h => ?_, d5, d6⟩
    · obtain ⟨kb, e1, e2, e3, e4, e5⟩ := k4 h
      exact ⟨kb, e1, e2, by dsimp only; omega, (updH_ne (by omega)).trans e4, e5⟩
    · obtain ⟨kb, e1, e2, e3, e4⟩ := k5 h
      exact ⟨kb, e1, e2, by dsimp only; omega, (updH_ne (by omega)).trans e4⟩
    · have h := k5' h
      cases lo with
      | none => exact h
      | some id =>
        obtain ⟨q1, q2, q3⟩ := h
        exact ⟨q1, by dsimp only; omega, (updH_ne (by omega)).trans q3⟩
    · obtain ⟨kb, e1, e2, e3, e4⟩ := h0' h
      exact ⟨kb, e1, e2, by dsimp only; omega, (updH_ne (by omega)).trans e4⟩
  | 2, ho =>
    have := Option.some.inj ho
    subst this
    simp +contextual only [go_sem, ↓reduceIte, Nat.reduceEqDiff, Nat.reduceAdd, Nat.reduceLeDiff, Nat.reduceLT, reduceCtorEq, (k2 (hbf 1 (by decide))).1, hu]
    refine ⟨t2, t3, t4, t5, t6, (updH_ne (by omega)).trans h1, by dsimp only; omega, fun k => (updH_ne (by dsimp only; omega)).trans (hun1 k), k0, fun h => ⟨(k2 h).1, ?_⟩, fun h => ?_, fun _ => ⟨m, rfl, n3, Nat.lt_succ_self _, updH_at, ?_⟩, fun h => ?_, fun h => ?_, fun h => (updH_ne (by omega)).trans (h0 h), fun h => ?_, fun h => ⟨(d5 h).1, rfl⟩, d6⟩
    · obtain ⟨e, e1, e2⟩ := (k2 h).2
      exact ⟨e, (updH_ne (by omega)).trans e1, e2⟩
    · obtain ⟨e, e1, e2⟩ := k2' h
      exact ⟨e, (updH_ne (by omega)).trans e1, e2⟩
    · intro he
      have h5 : S 3 = false := by
        cases h5 : S 3 with
        | true => have := (d5 h5).2; rw [hj] at this; cases this
        | false => rfl
      have h := k5' h5
      subst he
      have := h.2.1
      omega
    · obtain ⟨kb, e1, e2, e3, e4⟩ := k5 h
      exact ⟨kb, e1, e2, by dsimp only; omega, (updH_ne (by omega)).trans e4⟩
    · have h := k5' h
      cases lo with
      | none => exact h
      | some id =>
        obtain ⟨q1, q2, q3⟩ := h
        exact ⟨q1, by dsimp only; omega, (updH_ne (by omega)).trans q3⟩
    · obtain ⟨kb, e1, e2, e3, e4⟩ := h0' h
      exact ⟨kb, (updH_ne (by omega)).trans e1, e2, by dsimp only; omega, (updH_ne (by omega)).trans e4⟩
  | 3, ho =>
    have := Option.some.inj ho
    subst this
    have a0 := k0 (hbf 0 (by decide))
    obtain ⟨kb, e1, e2, e3, e4, e5⟩ := k4 (hbf 2 (by decide))
    have h6 : S 4 = false := by
      cases h6 : S 4 with
      | true => have := d6 h6; rw [hj] at this; cases this
      | false => rfl
    have hlv := k5' hj
    have b1 : (acc.length + 1) * 24 ≤ 68719476736 := by omega
    have b2 : acc.length + 1 ≤ 4294967296 := by omega
    cases lo with
    | none =>
      have := hac rfl
      subst this
      have hok : okE 1 (.slice 1 (f.map Cod.enc)) = true := rfl
      simp +contextual only [go_sem, ↓reduceIte, Nat.reduceEqDiff, Nat.reduceAdd, Nat.reduceLeDiff, Nat.reduceLT, reduceCtorEq, a0, e1, e4, hu, lvV, hok, Nat.mul_one, Nat.one_mul]
      refine ⟨t2, t3, t4, t5, t6, (updH_ne (by omega)).trans h1, by dsimp only; omega, fun k => (updH_ne (by dsimp only; omega)).trans (hun1 k), k0, fun h => ⟨(k2 h).1, ?_⟩, fun h => ?_, fun _ => ⟨kb, e1, e2, by dsimp only; omega, (updH_ne (by omega)).trans e4, e5⟩, fun _ => ⟨m, rfl, n3, Nat.lt_succ_self _, updH_at⟩, fun h => Bool.noConfusion (show true = false from h), fun h => (updH_ne (by omega)).trans (h0 h), fun h => ?_, fun _ => ⟨hbf 0 (by decide), hbf 2 (by decide)⟩, fun _ => rfl⟩
      · obtain ⟨e, x1, x2⟩ := (k2 h).2
        exact ⟨e, (updH_ne (by omega)).trans x1, x2⟩
      · obtain ⟨e, x1, x2⟩ := k2' h
        exact ⟨e, (updH_ne (by omega)).trans x1, x2⟩
      · have h : S 4 = true := h
        rw [h6] at h; cases h
    | some id =>
      obtain ⟨q1, q2, q3⟩ := hlv
      have y1 : (kb = m) = False := by simp; omega
      have hok : okE 1 (.slice 1 (f.map Cod.enc)) = true := rfl
      simp +contextual only [go_sem, ↓reduceIte, Nat.reduceEqDiff, Nat.reduceAdd, Nat.reduceLeDiff, Nat.reduceLT, reduceCtorEq, a0, e1, e4, hu, lvV, q3, hok, y1, Nat.mul_one, Nat.one_mul, b1, b2, Nat.zero_add, List.length_map]
      have hkb : kb ≠ id := fun h => e5 (by rw [h])
      have hcat : (acc.map Cod.enc ++ [.slice 1 (f.map Cod.enc)] : List V) = (acc ++ [f]).map Cod.enc := by rw [List.map_append]; rfl
      rw [hcat]
      refine ⟨t2, t3, t4, t5, t6, (updH_ne (by omega)).trans ((updH_ne (by omega)).trans h1), by dsimp only; omega, fun k => (updH_ne (by dsimp only; omega)).trans ((updH_ne (by dsimp only; omega)).trans (hun1 k)), k0, fun h => ⟨(k2 h).1, ?_⟩, fun h => ?_, fun _ => ⟨kb, e1, e2, by dsimp only; omega, (updH_ne (by omega)).trans ((updH_ne hkb).trans e4), e5⟩, fun _ => ⟨m, rfl, n3, Nat.lt_succ_self _, updH_at⟩, fun h => Bool.noConfusion (show true = false from h), fun h => (updH_ne (by omega)).trans ((updH_ne (by omega)).trans (h0 h)), fun h => ?_, fun _ => ⟨hbf 0 (by decide), hbf 2 (by decide)⟩, fun _ => rfl⟩
      · obtain ⟨e, x1, x2⟩ := (k2 h).2
        exact ⟨e, (updH_ne (by omega)).trans ((updH_ne (by omega)).trans x1), x2⟩
      · obtain ⟨e, x1, x2⟩ := k2' h
        exact ⟨e, (updH_ne (by omega)).trans ((updH_ne (by omega)).trans x1), x2⟩
      · have h : S 4 = true := h
        rw [h6] at h; cases h
  | 4, ho =>
    have := Option.some.inj ho
    subst this
    obtain ⟨kl, e1, e2, e3, e4⟩ := k5 (hbf 3 (by decide))
    have h00 := h0 hj
    have hlc := lv_cells lo acc.length
    generalize lvV lo acc.length = lv at h00 hlc
    simp only [V.cells] at hlc
    simp +contextual only [go_sem, ↓reduceIte, Nat.reduceEqDiff, Nat.reduceAdd, Nat.reduceLeDiff, Nat.reduceLT, reduceCtorEq, t2, e1, h00, hlc, List.length_cons, List.length_nil]
    have hun0 : ∀ k, updH H 0 (.live 1 [.own kl 0 (acc.length + 1)] true) (m + 1 + k) = .unborn := fun k => (updH_ne (by omega)).trans (hun1 k)
    have hkl : updH H 0 (.live 1 [.own kl 0 (acc.length + 1)] true) kl = .live 1 ((acc ++ [f]).map Cod.enc) true := (updH_ne (by omega)).trans e4
    refine ⟨t2, t3, t4, t5, t6, h1, by dsimp only; omega, hun0, k0, k2, k2', fun h => ?_, fun _ => ⟨kl, e1, e2, by dsimp only; omega, hkl⟩, fun h => ?_, fun h => Bool.noConfusion (show true = false from h), fun _ => ⟨kl, rfl, e2, by dsimp only; omega, hkl⟩, d5, fun _ => hbf 3 (by decide)⟩
    · obtain ⟨kb, x1, x2, x3, x4, x5⟩ := k4 h
      exact ⟨kb, x1, x2, by dsimp only; omega, (updH_ne (by omega)).trans x4, x5⟩
    · have h : S 3 = false := h
      rw [hbf 3 (by decide)] at h; cases h
  | j + 5, ho => cases ho
structure TkL where
  acc : List (List UInt8)
  lo : Option Nat
  n : Nat
  H : Heap
structure TlInv (l xs : List (List UInt8)) (p : TkL) : Prop where
  eq : l = p.acc ++ xs
  rd : RdAt p.H 2 (encLs xs)
  lv : LvOk p.H p.n 1 p.lo (p.acc.map Cod.enc)
  h0 : p.H 0 = .live 1 [lvV p.lo p.acc.length] true
  h1 : p.H 1 = .live 1 [.sc (.int .i64 0)] true
  n3 : 3 ≤ p.n
  un : ∀ k, p.H (p.n + k) = .unborn
theorem con52 {Φ : Specs} (hg : Idl.Good Tryd.prog Φ) (hchk : Φ 71 = some SChk) (hcl : Φ 87 = some SClB) (h72 : Φ 72 = none) (h73 : Φ 73 = none) : Contract Tryd.prog 52 STakL := by
  refine conD hg k52 ic52 (by decide) fun C t r h => ?_
  obtain ⟨b, u⟩ := t
  dsimp only at h
  split at h
  case isFalse => cases h
  rename_i hI
  obtain rfl := Option.some.inj h
  obtain ⟨l, hl, rfl⟩ := hI
  rw [decLs_enc hl]
  obtain ⟨hn, hne, hs⟩ := hl
  have d1 : decide ((l.length : Int) ≥ 0) = true := by simp
  have d2 : decide ((l.length : Int) ≤ 256) = true := by simp; omega
  simp +contextual only [go_sem, ↓reduceIte, Nat.reduceEqDiff, Nat.reduceAdd, Nat.reduceLeDiff, Nat.reduceLT, reduceCtorEq, c52a, c52b, k52, h72]
  refine ct72 hg hchk (r := 2) (m := (l.length : Int)) (tail := encLs l) (by omega) ⟨_, rfl, rfl⟩ ⟨by omega, by omega⟩ (by rw [encL] at hs; omega) fun τ' n' hn' => ?_
  simp +contextual only [go_sem, ↓reduceIte, Nat.reduceEqDiff, Nat.reduceAdd, Nat.reduceLeDiff, Nat.reduceLT, reduceCtorEq, k52, hchk, d1, d2]
  refine triH fun H1 hH1 => ?_
  have hun1 : ∀ k, H1 (n' + k) = .unborn := fun k => by rw [hH1]; (repeat (refine (updH_ne (by omega)).trans ?_)); rfl
  refine TriI.loopL hg k52 l (fun i (p : TkL) => ⟨slotsL [(2, .ref 0 0 0), (3, .ref 1 0 0), (4, .ref 2 0 0), (16, .sc (.int .i64 (l.length : Int))), (17, .sc (.int .i64 i))], p.H, p.n⟩) (TlInv l) ⟨[], none, n', H1⟩ (.slots ?_) ⟨rfl, ?_, rfl, ?_, ?_, by dsimp only; omega, hun1⟩ ?_ ?_
  · simp +contextual only [go_sem, ↓reduceIte, Nat.reduceEqDiff, Nat.reduceAdd, Nat.reduceLeDiff, Nat.reduceLT, reduceCtorEq]
    rfl
  · exact ⟨_, by dsimp only; rw [hH1]; exact updH_at, rfl⟩
  · dsimp only; rw [hH1]; (repeat (first | exact updH_at | refine (updH_ne (by omega)).trans ?_))
  · dsimp only; rw [hH1]; (repeat (first | exact updH_at | refine (updH_ne (by omega)).trans ?_))
  · rintro ⟨acc, lo, n, H⟩ ⟨g1, g4, g5, g6, g7, g8, g9⟩
    dsimp only at g1 g4 g5 g6 g7 g8 g9 ⊢
    rw [List.append_nil] at g1
    subst g1
    obtain ⟨e0, hR, hc0⟩ := g4
    simp only [V.cells] at hc0
    have z0 : ((((0 : Nat) : Int)) == 0) = true := rfl
    cases lo with
    | none =>
      have hl0 : l = [] := by
        have : l.map (Cod.enc (α := List UInt8)) = [] := g5
        simpa using this
      subst hl0
      simp +contextual only [go_sem, ↓reduceIte, Nat.reduceEqDiff, Nat.reduceAdd, Nat.reduceLeDiff, Nat.reduceLT, reduceCtorEq, k52, Int.lt_irrefl, decide_false, hR, hc0, hchk, z0, encLs, List.map_nil, List.length_nil, g6, g7, lvV]
    | some id =>
      obtain ⟨q1, q2, q3⟩ := g5
      have y0 : (id = 0) = False := by simp; omega
      have y1 : (id = 1) = False := by simp; omega
      simp +contextual only [go_sem, ↓reduceIte, Nat.reduceEqDiff, Nat.reduceAdd, Nat.reduceLeDiff, Nat.reduceLT, reduceCtorEq, k52, Int.lt_irrefl, decide_false, hR, hc0, hchk, z0, encLs, List.map_nil, List.length_nil, g6, g7, lvV, q3, y0, y1, isF_lst, List.length_map, Nat.zero_add, Nat.le_refl, and_self, tk_lst, decL_enc Cod.dec_enc]
  · rintro i ⟨acc, lo, n, H⟩ f xs hd hlt hx ⟨g1, g4, g5, g6, g7, g8, g9⟩
    dsimp only at g1 g4 g5 g6 g7 g8 g9 ⊢
    have hw := wrap_nat hlt (by omega)
    have hfd : f ≠ [] := hne f (by rw [g1]; simp)
    have hal : acc.length ≤ 256 := by have := congrArg List.length g1; simp at this; omega
    have hel : (encLs (f :: xs)).length ≤ 1000000 := by
      have h1 := congrArg (fun l => (encLs l).length) g1
      have h2 : ∀ a b : List (List UInt8), (encLs b).length ≤ (encLs (a ++ b)).length := fun a b => by
        induction a with
        | nil => simp
        | cons y a ih => rw [List.cons_append, encLs]; simp only [List.length_append]; omega
      have := h2 acc (f :: xs)
      rw [encL, List.length_append] at hs
      omega
    rw [encLs] at g4 hel
    have hacc0 : lo = none → acc = [] := fun h => by
      subst h
      have : acc.map (Cod.enc (α := List UInt8)) = [] := g5
      simpa using this
    simp +contextual only [go_sem, ↓reduceIte, Nat.reduceEqDiff, Nat.reduceAdd, Nat.reduceLeDiff, Nat.reduceLT, reduceCtorEq, k52, lt_dec hlt]
    refine regL_ok (K := k52) (N := (l.length : Int)) (i := (i : Int)) hg hchk hcl h72 h73 (lo := lo) (acc := acc) (tail := encLs xs) hfd (by omega) hal hacc0 ?_ fun s S hS hJ => ?_
    · exact ⟨rfl, rfl, rfl, rfl, rfl, g7, g8, g9, nofun, nofun, fun _ => g4, nofun, nofun, fun _ => g5, fun _ => g6, nofun, nofun, nofun⟩
    · obtain ⟨τ, H2, m⟩ := s
      obtain ⟨t2, t3, t4, t5, t6, h1, n3, un, k0, k2, k2', k4, k5, k5', h0, h0', d5, d6⟩ := hJ
      obtain ⟨kl, e1, e2, e3, e4⟩ := h0' (hS 4 (by decide))
      have e5 := (k2 (hS 1 (by decide))).2
      dsimp only at t2 t3 t4 t5 t6 h1 n3 un e1 e2 e3 e4 e5 ⊢
      simp +contextual only [go_sem, ↓reduceIte, Nat.reduceEqDiff, Nat.reduceAdd, Nat.reduceLeDiff, Nat.reduceLT, reduceCtorEq, k52, t6, hw]
      refine ⟨⟨acc ++ [f], some kl, m, H2⟩, ⟨by rw [g1]; simp, e5, ⟨e2, e3, e4⟩, ?_, h1, n3, un⟩, .slots ?_⟩
      · dsimp only
        rw [e1, List.length_append]; rfl
      · simp +contextual only [go_sem, ↓reduceIte, Nat.reduceEqDiff, Nat.reduceAdd, Nat.reduceLeDiff, Nat.reduceLT, reduceCtorEq, t2, t3, t4, t5]
end Go.Proofs.YteocedfakgdckaaDoor
