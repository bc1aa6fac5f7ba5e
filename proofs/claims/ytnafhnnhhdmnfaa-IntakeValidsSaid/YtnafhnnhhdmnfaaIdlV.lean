/-
  A short form of operations and code, with types' facts looked up: what a walk simplifies. It says what the evaluator says.
-/
import Derived.Test.YtnafhnnhhdmnfaaIdlU
namespace Go.Idl
set_option linter.all false
open Go.RowKit

/-- An operand: a slot, or a value. -/
inductive A where
  | t (slot : Nat)
  | k (v : V)
def A.get (τ : Nat → V) : A → V
  | .t n => τ n
  | .k v => v
def A.of : Operand → A
  | .tmp n => .t n
  | .const v => .k (V.ofV v)
  | .global g => .k (.sc (.pointer (some ⟨g, 0, none⟩)))
  | .func f => .k (.sc (.func (.func f) #[] #[]))
theorem A.get_of (τ : Nat → V) (x : Operand) : (A.of x).get τ = opd τ x := by cases x <;> rfl

inductive Ins where
  | mv (x : A)
  | pick (c x y : A)
  | al (z : V) (n : Nat)
  | bx (x : A)
  | ld (ag : Option Nat) (x : A)
  | st (n : Nat) (x y : A)
  | sh (off : Nat) (x : A)
  | ixs (sz : Nat) (x i : A)
  | ixa (len sz : Nat) (x i : A)
  | fld (ag : Option Nat) (off : Nat) (x : A)
  | ext (x : A) (i : Nat)
  | bld (zero : List V) (parts : List (Nat × Nat × A))
  | bsl (sz len : Nat) (ag : Bool) (zero : List V) (parts : List (Nat × Nat × A))
  | mks (sz bytes : Nat) (z : V) (l c : A)
  | sl (sz : Nat) (x : A) (lo hi mx : Option A) (o : Oper)
  | sls (x : A) (o : Oper)
  | bin (op : BinOp) (isB : Bool) (x y : A) (o : Oper)
  | un (op : UnOp) (x : A) (o : Oper)
  | len (x : A) (o : Oper)
  | lens (x : A) (o : Oper)
  | app (sz bytes : Nat) (x y : A)
  | call (f : FuncId) (xs : List A)
  | callv (x : A) (xs : List A)
  | opx (o : Oper)
  | mkf (fn : Fn) (first captured : List A)
  | rng (x : A)
  | nxt (x : A)
  | nck (x : A) (o : Oper)
  | pur (o : Oper)
  | mmk (r : Option A)
  | mpt (ag : Bool) (ks : List CK) (x k v : A)
  | mlk (ag : Bool) (ks : List CK) (z : V) (b : Bool) (x k : A) (o : Oper)
  | mdl (ag : Bool) (ks : List CK) (x k : A) (o : Oper)
  | mln (x : A) (o : Oper)

def readI (ag : Option Nat) (cells : List V) (off : Nat) : Option V := match ag with
  | some n => if off + n ≤ cells.length then some (.agg ((cells.drop off).take n)) else none
  | none => cells[off]?

def fillI (cells : List V) : List (Nat × Nat × V) → Option (List V)
  | [] => some cells
  | (off, size, v) :: rest => if v.solid = true ∧ v.cells.length = size ∧ off + size ≤ cells.length then fillI (splice cells off v.cells) rest else none

def getP (τ : Nat → V) (ps : List (Nat × Nat × A)) : List (Nat × Nat × V) := ps.map fun p => (p.1, p.2.1, p.2.2.get τ)

def frzP (h : Heap) (ps : List (Nat × Nat × V)) : List (Nat × Nat × V) := ps.map fun p => (p.1, p.2.1, frz1 h p.2.2)
def idsP (ps : List (Nat × Nat × V)) : List Nat := ps.flatMap fun p => p.2.2.ids
def okE (sz : Nat) (y : V) : Bool := decide (y.cells.length = sz) && y.isF

/-! ### Maps -/
def idxI (ag : Bool) (ks : List CK) (kv : Value) (keys : List Value) : Option (Option Nat) := if kv.cells.size = ks.length then keyFind ag ks kv.cells.toList keys 0 else none
def mmkI (n : Nat) : Option V → Obj → Option (V × List (Nat × Obj))
  | none, .unborn => some (.mapr n, [(n, .ext (.map [] []))])
  | some (.sc (.int _ _)), .unborn => some (.mapr n, [(n, .ext (.map [] []))])
  | _, _ => none
def lookF (z : V) (b : Bool) (vs : List V) : Option (Option Nat) → Option (V × List (Nat × Obj))
  | some (some i) => (vs[i]?).map fun v => (lookV b v true, [])
  | some none => some (lookV b z false, [])
  | none => none
def lookI (ag : Bool) (ks : List CK) (z : V) (b : Bool) : Option Value → Obj → Option (V × List (Nat × Obj))
  | some kv, .ext (.map keys vs) => lookF z b vs (idxI ag ks kv keys)
  | _, _ => none
def putF' (id : Nat) (kv : Value) (v : V) (keys : List Value) (vs : List V) : Option (Option Nat) → Option (V × List (Nat × Obj))
  | some (some i) => some (.any, [(id, .ext (.map (keys.set i kv) (vs.set i v)))])
  | some none => some (.any, [(id, .ext (.map (keys ++ [kv]) (vs ++ [v])))])
  | none => none
def putI (ag : Bool) (ks : List CK) (id : Nat) (v : V) : Option Value → Obj → Option (V × List (Nat × Obj))
  | some kv, .ext (.map keys vs) => putF' id kv v keys vs (idxI ag ks kv keys)
  | _, _ => none
def delF (id : Nat) (keys : List Value) (vs : List V) : Option (Option Nat) → Option (V × List (Nat × Obj))
  | some (some i) => some (.sc (.tuple #[]), [(id, .ext (.map (keys.eraseIdx i) (vs.eraseIdx i)))])
  | some none => some (.sc (.tuple #[]), [(id, .ext (.map keys vs))])
  | none => none
def delI (ag : Bool) (ks : List CK) (id : Nat) : Option Value → Obj → Option (V × List (Nat × Obj))
  | some kv, .ext (.map keys vs) => delF id keys vs (idxI ag ks kv keys)
  | _, _ => none
def lenM : Obj → Option (V × List (Nat × Obj))
  | .ext (.map keys _) => some (.sc (.int .i64 (keys.length : Int)), [])
  | _ => none

def evIO (P : Program) (Φ : Specs) (nid : Nat) (τ : Nat → V) (h : Heap) : Ins → Option (V × List (Nat × Obj))
  | .mv x => some (x.get τ, [])
  | .pick c x y => match c.get τ with
    | .sc (.bool t) => some (if t then x.get τ else y.get τ, [])
    | _ => none
  | .al z n => match h nid with
    | .unborn => some (.ref nid 0 0, [(nid, .live n [z] true)])
    | _ => none
  | .bx x => evBox nid h (x.get τ)
  | .ld ag x => match x.get τ with
    | .ref id idx off => match h id with
      | .live _ es _ => (es[idx]?).bind fun e => (readI ag e.cells off).map (·, [])
      | _ => none
    | .elem e off => (readI ag e.cells off).map (·, [])
    | _ => none
  | .st n x y => match x.get τ with
    | .ref id idx off => match h id with
      | .live sz es true => (es[idx]?).bind fun e => if (y.get τ).solid = true ∧ (y.get τ).cells.length = n ∧ 0 < n ∧ off + n ≤ sz then some (.any, [(id, .live sz (es.set idx (e.write off (y.get τ))) true)]) else none
      | _ => none
    | _ => none
  | .sh off x => (shift off (x.get τ)).map (·, [])
  | .ixs sz x i => match i.get τ with
    | .sc (.int _ n) => match x.get τ with
      | .slice s es => if s = sz ∧ 0 ≤ n then (es[n.toNat]?).map fun e => (.elem e 0, []) else none
      | .own id off len => match h id with
        | .live s _ _ => if s = sz ∧ 0 ≤ n ∧ n < len then some (.ref id (off + n.toNat) 0, []) else none
        | _ => none
      | _ => none
    | _ => none
  | .ixa len sz x i => match i.get τ with
    | .sc (.int _ n) => if 0 ≤ n ∧ n < len then (shift (n.toNat * sz) (x.get τ)).map (·, []) else none
    | _ => none
  | .fld ag off x => match x.get τ with
    | .agg cs => (readI ag cs off).map (·, [])
    | _ => none
  | .ext x i => match x.get τ with
    | .tup vs => (vs[i]?).map (·, [])
    | _ => none
  | .bld zero ps => (fillI zero (getP τ ps)).map fun cs => (.agg cs, [])
  | .bsl sz len ag zero ps => match h nid with
    | .unborn => addD (froze h (idsP (getP τ ps))) ((fillI zero (frzP h (getP τ ps))).bind fun cs => if ag = true ∨ (sz = 1 ∧ cs.all V.cellOk = true) then some (.own nid 0 len, [(nid, .live sz (chunks ag sz cs len) true)]) else none)
    | _ => none
  | .mks sz bytes z l c => match h nid, l.get τ, c.get τ with
    | .unborn, .sc (.int .i64 l), .sc (.int .i64 c) => if 0 ≤ l ∧ l ≤ c ∧ c ≤ 4294967296 ∧ bytes * c.toNat ≤ 281474976710656 then some (.own nid 0 l.toNat, [(nid, .live sz (List.replicate l.toNat z) true)]) else none
    | _, _, _ => none
  | .sl sz x lo hi mx o => match x.get τ with
    | .sc (.string _) => evPure P (opd τ) o
    | v => evSliceI h sz v (lo.map (A.get τ)) (hi.map (A.get τ)) (mx.map (A.get τ))
  | .sls x o => match x.get τ with
    | .sc (.string _) => evPure P (opd τ) o
    | _ => none
  | .bin op isB x y o => evBin P (opd τ) o op isB (x.get τ) (y.get τ)
  | .un op x o => evUn P (opd τ) o op (x.get τ)
  | .len x o => match x.get τ with
    | .sc _ => evPure P (opd τ) o
    | y => (y.len).map fun (n : Nat) => (V.sc (.int .i64 (n : Int)), [])
  | .lens x o => match x.get τ with
    | .sc _ => evPure P (opd τ) o
    | _ => none
  | .app sz bytes x y => match h nid with
    | .unborn => (news h sz (y.get τ)).bind fun ys => match x.get τ with
      | .own id off len => match h id with
        | .live s es mu => if s = sz ∧ off + len = es.length ∧ (len + ys.length) * bytes ≤ 68719476736 ∧ len + ys.length ≤ 4294967296 ∧ ys.all (okE sz) = true
          then some (.own nid 0 (len + ys.length), [(id, .dead), (nid, .live sz (es.drop off ++ ys) mu)]) else none
        | _ => none
      | .mt => if ys.length * bytes ≤ 68719476736 ∧ ys.length ≤ 4294967296 ∧ ys.all (okE sz) = true then some (.own nid 0 ys.length, [(nid, .live sz ys true)]) else none
      | .sc (.slice none 0 0) => if ys.length * bytes ≤ 68719476736 ∧ ys.length ≤ 4294967296 ∧ ys.all (okE sz) = true then some (.own nid 0 ys.length, [(nid, .live sz ys true)]) else none
      | _ => none
    | _ => none
  | .callv _ _ => none
  | .opx _ => none
  | .mkf fn xs ys => some (.fn fn (xs.map (A.get τ)) (ys.map (A.get τ)), [])
  | .call f xs => (Φ f).bind fun F => (freezes h (xs.map (A.get τ))).bind fun ys => (F ys).map fun r => (r, froze h ((xs.map (A.get τ)).flatMap V.ids))
  | .rng x => match x.get τ with
    | .sc (.string s) => match h nid with
      | .unborn => some (.ref nid 0 0, [(nid, .ext (.iter s 0))])
      | _ => none
    | _ => none
  | .nxt x => match x.get τ with
    | .ref id 0 0 => match h id with
      | .ext (.iter s pos) => if pos < s.size then some (.tup [.sc (.bool true), .sc (.int .i64 pos), .sc (.int .i32 (Utf8.decode s pos).1)], [(id, .ext (.iter s (pos + (Utf8.decode s pos).2)))])
          else some (.tup [.sc (.bool false)], [])
      | _ => none
    | _ => none
  | .nck x o => match x.get τ with
    | .ref id idx off => some (.ref id idx off, [])
    | .elem e off => some (.elem e off, [])
    | _ => evPure P (opd τ) o
  | .pur o => evPure P (opd τ) o
  | .mmk r => mmkI nid (r.map (A.get τ)) (h nid)
  | .mpt ag ks x k v => match x.get τ with
    | .mapr id => putI ag ks id (v.get τ) (kvOf ag (k.get τ)) (h id)
    | _ => none
  | .mlk ag ks z b x k o => match x.get τ with
    | .mapr id => lookI ag ks z b (kvOf ag (k.get τ)) (h id)
    | .mapf keys vs => lookI ag ks z b (kvOf ag (k.get τ)) (.ext (.map keys vs))
    | _ => evPure P (opd τ) o
  | .mdl ag ks x k o => match x.get τ with
    | .mapr id => delI ag ks id (kvOf ag (k.get τ)) (h id)
    | _ => evPure P (opd τ) o
  | .mln x o => match x.get τ with
    | .mapr id => lenM (h id)
    | .mapf keys vs => lenM (.ext (.map keys vs))
    | .sc _ => evPure P (opd τ) o
    | _ => none

def needI (nid : Nat) (τ : Nat → V) : Ins → List Nat
  | .al _ _ => [nid]
  | .bx _ => [nid]
  | .bsl _ _ _ _ ps => nid :: idsP (getP τ ps)
  | .mks _ _ _ _ _ => [nid]
  | .rng _ => [nid]
  | .nxt x => match x.get τ with
    | .ref id _ _ => [id]
    | _ => []
  | .ld _ x => match x.get τ with
    | .ref id _ _ => [id]
    | _ => []
  | .st _ x _ => match x.get τ with
    | .ref id _ _ => [id]
    | _ => []
  | .ixs _ x _ => (x.get τ).ids
  | .ixa _ _ x _ => (x.get τ).ids
  | .sl _ x _ _ _ _ => (x.get τ).ids
  | .sls x _ => (x.get τ).ids
  | .app _ _ x y => nid :: ((x.get τ).ids ++ (y.get τ).ids)
  | .call _ xs => xs.flatMap fun x => (x.get τ).ids
  | .callv _ xs => xs.flatMap fun x => (x.get τ).ids
  | .opx o => need nid (opd τ) o
  | .mmk _ => [nid]
  | .mpt _ _ x _ _ => idM (x.get τ)
  | .mlk _ _ _ _ x _ _ => idM (x.get τ)
  | .mdl _ _ x _ _ => idM (x.get τ)
  | .mln x _ => idM (x.get τ)
  | .len x _ => idM (x.get τ)
  | .lens x _ => idM (x.get τ)
  | _ => []

/-- What of an operation the evaluator looks at. -/

def agOf (P : Program) (t : TypeId) : Option (Option Nat) :=
  if aggT P t then (sizeT P t).map some else (P.underlying t).map fun _ => none

def cOp (P : Program) (o : Oper) : Option Ins :=
  match o.op with
  | .move x => some (.mv (A.of x))
  | .assign x => some (.mv (A.of x))
  | .pick c x y => some (.pick (A.of c) (A.of x) (A.of y))
  | .alloc t => (zeroT P t).map fun z => .al (V.ofV z) z.cells.size
  | .box _ x => some (.bx (A.of x))
  | .load t x => (agOf P t).map fun ag => .ld ag (A.of x)
  | .store t x y => (sizeT P t).map fun n => .st n (A.of x) (A.of y)
  | .fieldAddr s x f => (fieldT P s f).bind fun fd => if sizeT P fd.type = some 0 ∨ sizeT P fd.type = none then none else some (.sh fd.offset (A.of x))
  | .indexAddr t x i => match P.underlying t with
    | some (.slice et) => (sizeT P et).map fun sz => .ixs sz (A.of x) (A.of i)
    | some (.array len et) => (sizeT P et).map fun sz => .ixa len sz (A.of x) (A.of i)
    | _ => none
  | .field s x f => (fieldT P s f).bind fun fd => (agOf P fd.type).map fun ag => .fld ag fd.offset (A.of x)
  | .extract x i => some (.ext (A.of x) i)
  | .build t parts => (zeroT P t).bind fun z => match P.underlying t with
    | some (.struct fs) => if fs.toList.all (fun f => (sizeT P f.type).isSome) = true ∧ parts.toList.all (fun p => (fs[p.1]?).isSome) = true then
        some (.bld (V.ofV z).cells (parts.toList.map fun p => (((fs[p.1]?).map (·.offset)).getD 0, ((fs[p.1]?).bind fun f => sizeT P f.type).getD 0, A.of p.2))) else none
    | some (.array _ e) => (sizeT P e).map fun n => .bld (V.ofV z).cells (parts.toList.map fun p => (p.1 * n, n, A.of p.2))
    | _ => none
  | .buildSlice t len parts => (elemT P t).bind fun et => match sizeT P et, zeroT P et with
    | some sz, some z => if z.cells.size = sz ∧ 0 < sz ∧ len * sz ≤ 16777216 then some (.bsl sz len (aggT P et) (zeros z len) (parts.toList.map fun p => (p.1 * sz, sz, A.of p.2))) else none
    | _, _ => none
  | .makeSlice t l c => (elemT P t).bind fun et => match P.info? et, zeroT P et with
    | some i, some z => if z.cells.size = i.size ∧ 0 < i.size then some (.mks i.size i.bytes (V.ofV z) (A.of l) (A.of c)) else none
    | _, _ => none
  | .slice t x lo hi mx => if strT P t = true then some (.sls (A.of x) (lean o)) else (elemT P t).bind fun et => (sizeT P et).map fun sz => .sl sz (A.of x) (lo.map A.of) (hi.map A.of) (mx.map A.of) (lean o)
  | .binOp op t x y _ => some (.bin op (boolT P t) (A.of x) (A.of y) (lean o))
  | .unOp op _ x => some (.un op (A.of x) (lean o))
  | .range t x => if strT P t = true then some (.rng (A.of x)) else some (.opx (lean o))
  | .next x str => if str = true then some (.nxt (A.of x)) else some (.opx (lean o))
  | .call c => match c.callee with
    | .builtin .len => match c.args.toList, c.argTypes.toList with
      | [x], [t] => match P.underlying t with
        | some (.slice _) => some (.len (A.of x) (lean o))
        | some (.map _ _) => some (.mln (A.of x) (lean o))
        | _ => some (.lens (A.of x) (lean o))
      | _, _ => none
    | .builtin .append => match c.args.toList, c.argTypes.toList with
      | [x, y], [t, t'] => if t = t' ∨ strT P t' = true then (elemT P t).bind fun et => match P.info? et, zeroT P et with
          | some i, some z => if z.cells.size = i.size ∧ 0 < i.size then some (.app i.size i.bytes (A.of x) (A.of y)) else none
          | _, _ => none
        else none
      | _, _ => none
    | .builtin .delete => match c.args.toList, c.argTypes.toList with
      | [x, y], [t, _] => (mapKV P t).map fun q => .mdl (aggT P q.1) q.2.2 (A.of x) (A.of y) (lean o)
      | _, _ => none
    | .builtin _ => some (.pur (lean o))
    | .value (.func f) => some (.call f (c.args.toList.map A.of))
    | .value x => some (.callv (A.of x) (c.args.toList.map A.of))
    | _ => none
  | .nilCheck x => some (.nck (A.of x) (lean o))
  | .makeFunc fn xs ys => some (.mkf fn (xs.toList.map A.of) (ys.toList.map A.of))
  | .makeMap t r => (mapKV P t).map fun _ => .mmk (r.map A.of)
  | .mapUpdate t m k v => (mapKV P t).map fun q => .mpt (aggT P q.1) q.2.2 (A.of m) (A.of k) (A.of v)
  | .lookup t m k b => (mapKV P t).bind fun q => (zeroT P q.2.1).map fun z => .mlk (aggT P q.1) q.2.2 (V.ofV z) b (A.of m) (A.of k) (lean o)
  | _ => some (.pur (lean o))


theorem evPure_lean (P : Program) (ρ : Operand → V) (o : Oper) : evPure P ρ (lean o) = evPure P ρ o := by
  have e : ∀ ρ' : Operand → Value, execOp ρ' (lean o) = execOp ρ' o := fun ρ' => by
    unfold execOp lean
    dsimp only
  unfold evPure
  simp only [e]
  rfl

theorem readI_eq {P : Program} {t : TypeId} {ag : Option Nat} (h : agOf P t = some ag) (cells : List V) (off : Nat) : readC P t cells off = readI ag cells off := by
  unfold agOf at h
  unfold readC readI
  split at h
  · rename_i ha
    rw [if_pos ha]
    simp only [Option.map_eq_some_iff] at h
    obtain ⟨n, hn, rfl⟩ := h
    simp [hn]
  · rename_i ha
    rw [if_neg ha]
    simp only [Option.map_eq_some_iff] at h
    obtain ⟨d, hd, rfl⟩ := h
    simp [hd]

theorem fill_eq (place : Nat → Option (Nat × Nat)) (f : Nat → Nat × Nat) : ∀ (ps : List (Nat × V)) (cells : List V), (∀ p, p ∈ ps → place p.1 = some (f p.1)) →
    fillV place cells ps = fillI cells (ps.map fun p => ((f p.1).1, (f p.1).2, p.2))
  | [], cells, _ => rfl
  | (i, v) :: ps, cells, h => by
    have h0 := h (i, v) (by simp)
    simp only [fillV, h0, fillI, List.map_cons]
    rw [fill_eq place f ps _ (fun p hp => h p (by simp [hp]))]

theorem map_of (τ : Nat → V) (xs : List Operand) : (xs.map A.of).map (A.get τ) = xs.map (opd τ) := by
  rw [List.map_map]
  exact List.map_congr_left fun x _ => A.get_of τ x

theorem okE_all (sz : Nat) (ys : List V) : ys.all (okE sz) = true ↔ ys.all (fun y => y.cells.length = sz) = true ∧ ys.all V.isF = true := by
  simp only [List.all_eq_true, okE, Bool.and_eq_true]
  constructor
  · intro h; exact ⟨fun x hx => (h x hx).1, fun x hx => (h x hx).2⟩
  · intro h x hx; exact ⟨h.1 x hx, h.2 x hx⟩

theorem orE_none {α : Type} (x : Option α) : orE x none = x := by cases x <;> rfl
theorem orE_left {α : Type} {x y : Option α} {r : α} (h : x = some r) : orE x y = some r := by rw [h]; rfl
theorem orE_right {α : Type} {x y : Option α} {r : α} (h : x = none) (h' : y = some r) : orE x y = some r := by rw [h, h']; rfl
theorem evPure_mapr {P : Program} {ρ : Operand → V} {o : Oper} {x : Operand} {id : Nat} (hx : x ∈ o.op.operands) (h : ρ x = .mapr id) : evPure P ρ o = none := by
  unfold evPure
  rw [if_neg]
  intro hall
  have := Array.all_eq_true_iff_forall_mem.1 hall x hx
  simp [h, V.conc] at this

theorem evPure_mapf {P : Program} {ρ : Operand → V} {o : Oper} {x : Operand} {ks : List Value} {vs : List V} (hx : x ∈ o.op.operands) (h : ρ x = .mapf ks vs) : evPure P ρ o = none := by
  unfold evPure
  rw [if_neg]
  intro hall
  have := Array.all_eq_true_iff_forall_mem.1 hall x hx
  simp [h, V.conc] at this
theorem runPure_newObj {P : Program} {β : Type} (x : Go.Obj) (k : Nat → Sem β) : runPure P (newObj x >>= k) = none := rfl
theorem makeMap_impure {P : Program} {β : Type} (t : TypeId) (r : Option Value) (f : Value → Sem β) : runPure P (Instr.makeMap t r >>= f) = none := by
  have : runPure P (Instr.makeMap t r) = none := by
    unfold Instr.makeMap
    cases r with
    | none => rfl
    | some v =>
      rw [runPure_bind]
      cases hu : runPure P (underlying t) with
      | none => rfl
      | some d =>
        rw [Option.bind_some]
        cases d <;> first
          | rfl
          | (rw [runPure_bind]; cases runPure P (asInt v) <;> rfl)
  rw [runPure_bind, this]
  rfl

set_option maxHeartbeats 1000000 in
/-- The short form says what the evaluator says. -/
theorem cOp_eq {P : Program} {Φ : Specs} {nid : Nat} {τ : Nat → V} {h : Heap} {o : Oper} {io : Ins} (hc : cOp P o = some io) :
    (∀ r, evIO P Φ nid τ h io = some r → evOp P Φ nid (opd τ) h o = some r) ∧ needI nid τ io = need nid (opd τ) o := by
  unfold cOp at hc
  unfold evOp need evOp0 need0 mapEv mapNeed
  cases ho : o.op <;> rw [ho] at hc <;> dsimp only at hc ⊢ <;> try simp only [orE_none, List.nil_append]
  case move x => cases hc; simp [evIO, needI, A.get_of]
  case assign x => cases hc; simp [evIO, needI, A.get_of]
  case pick c x y =>
    cases hc
    refine ⟨fun r hr => ?_, rfl⟩
    simp only [evIO, A.get_of] at hr
    generalize opd τ c = vc at hr ⊢
    cases vc with
    | sc u => cases u <;> first | exact hr | cases hr
    | _ => cases hr
  case alloc t =>
    simp only [Option.map_eq_some_iff] at hc
    obtain ⟨z, hz, rfl⟩ := hc
    refine ⟨fun r hr => ?_, rfl⟩
    simp only [evIO] at hr
    simp only [evAlloc, hz]
    split at hr
    · rename_i h0; rw [h0]; exact hr
    · cases hr
  case box t x => cases hc; simp [evIO, needI, A.get_of]
  case load t x =>
    simp only [Option.map_eq_some_iff] at hc
    obtain ⟨ag, hag, rfl⟩ := hc
    refine ⟨fun r hr => ?_, ?_⟩
    · simp only [evIO, A.get_of] at hr
      simp only [evLoad, readI_eq hag]
      generalize opd τ x = vx at hr ⊢
      cases vx with
      | ref id idx off =>
        dsimp only at hr ⊢
        generalize h id = ob at hr ⊢
        cases ob with
        | live sz es mu =>
          simp only [Option.bind_eq_some_iff, Option.map_eq_some_iff] at hr ⊢
          obtain ⟨e, he, v, hv, rfl⟩ := hr
          exact ⟨v, ⟨e, he, hv⟩, rfl⟩
        | _ => cases hr
      | elem e off => exact hr
      | _ => cases hr
    · simp only [needI, A.get_of]
      generalize opd τ x = vx
      cases vx <;> rfl
  case store t x y =>
    simp only [Option.map_eq_some_iff] at hc
    obtain ⟨n, hn, rfl⟩ := hc
    refine ⟨fun r hr => ?_, ?_⟩
    · simp only [evIO, A.get_of] at hr
      simp only [evStore, hn]
      generalize opd τ x = vx at hr ⊢
      cases vx with
      | ref id idx off =>
        dsimp only at hr ⊢
        generalize h id = ob at hr ⊢
        cases ob with
        | live sz es mu =>
          cases mu with
          | false => cases hr
          | true =>
            simp only [Option.bind_eq_some_iff] at hr
            obtain ⟨e, he, hr⟩ := hr
            simp only [he]
            split at hr
            · rename_i hcond
              rw [if_pos hcond]
              cases hr
              rfl
            · cases hr
        | _ => cases hr
      | _ => cases hr
    · simp only [needI, A.get_of]
      generalize opd τ x = vx
      cases vx <;> rfl
  case fieldAddr s x f =>
    cases hf : fieldT P s f with
    | none => simp [hf] at hc
    | some fd =>
      simp only [hf, Option.bind_some] at hc
      split at hc
      · cases hc
      · rename_i hsz
        cases hc
        refine ⟨fun r hr => ?_, rfl⟩
        simp only [evIO, A.get_of] at hr
        simp only [evFieldAddr, hf, Option.bind_some, if_neg hsz]
        exact hr
  case indexAddr t x i =>
    split at hc
    · rename_i et hut
      simp only [Option.map_eq_some_iff] at hc
      obtain ⟨sz, hsz, rfl⟩ := hc
      refine ⟨fun r hr => ?_, by simp only [needI, A.get_of]⟩
      simp only [evIO, A.get_of] at hr
      simp only [evIndexAddr, hut, hsz, Option.bind_some]
      generalize opd τ i = vi at hr ⊢
      cases vi with
      | sc u =>
        cases u with
        | int k n =>
          dsimp only at hr ⊢
          generalize opd τ x = vx at hr ⊢
          cases vx with
          | slice s es =>
            dsimp only at hr ⊢
            split at hr
            · rename_i hcond
              rw [if_pos hcond]
              simp only [Option.map_eq_some_iff] at hr ⊢
              obtain ⟨e, he, rfl⟩ := hr
              exact ⟨_, ⟨e, he, rfl⟩, rfl⟩
            · cases hr
          | own id off len =>
            dsimp only at hr ⊢
            generalize h id = ob at hr ⊢
            cases ob with
            | live s es mu =>
              dsimp only at hr ⊢
              split at hr
              · rename_i hcond; simp only [if_pos hcond]; cases hr; rfl
              · cases hr
            | _ => cases hr
          | _ => cases hr
        | _ => cases hr
      | _ => cases hr
    · rename_i len et hut
      simp only [Option.map_eq_some_iff] at hc
      obtain ⟨sz, hsz, rfl⟩ := hc
      refine ⟨fun r hr => ?_, by simp only [needI, A.get_of]⟩
      simp only [evIO, A.get_of] at hr
      simp only [evIndexAddr, hut, hsz, Option.bind_some]
      generalize opd τ i = vi at hr ⊢
      cases vi with
      | sc u =>
        cases u with
        | int k n =>
          dsimp only at hr ⊢
          split at hr
          · rename_i hcond; rw [if_pos hcond]; exact hr
          · cases hr
        | _ => cases hr
      | _ => cases hr
    · cases hc
  case field s x f =>
    cases hf : fieldT P s f with
    | none => simp [hf] at hc
    | some fd =>
      simp only [hf, Option.bind_some, Option.map_eq_some_iff] at hc
      obtain ⟨ag, hag, rfl⟩ := hc
      refine ⟨fun r hr => ?_, rfl⟩
      simp only [evIO, A.get_of] at hr
      generalize opd τ x = vx at hr ⊢
      cases vx with
      | agg cs => simp only [Option.bind_some, readI_eq hag]; exact hr
      | _ => cases hr
  case extract x i =>
    cases hc
    refine ⟨fun r hr => ?_, rfl⟩
    simp only [evIO, A.get_of] at hr
    generalize opd τ x = vx at hr ⊢
    cases vx with
    | tup vs => exact hr
    | _ => cases hr
  case build t parts =>
    cases hz : zeroT P t with
    | none => simp [hz] at hc
    | some z =>
      simp only [hz, Option.bind_some] at hc
      split at hc
      · rename_i fs hfs
        split at hc
        · rename_i hall
          cases hc
          refine ⟨fun r hr => ?_, rfl⟩
          simp only [evIO] at hr
          simp only [evBuild, hz, Option.bind_some, hfs, if_pos hall.1]
          rw [fill_eq _ (fun i => (((fs[i]?).map (·.offset)).getD 0, ((fs[i]?).bind fun f => sizeT P f.type).getD 0)) _ _ (fun p hp => by
            simp only [List.mem_map] at hp
            obtain ⟨q, hq, rfl⟩ := hp
            have h1 := List.all_eq_true.1 hall.2 q hq
            obtain ⟨fd, hfd⟩ := Option.isSome_iff_exists.1 h1
            have h2 := List.all_eq_true.1 hall.1 fd (by simpa using Array.mem_of_getElem? hfd)
            obtain ⟨m, hm⟩ := Option.isSome_iff_exists.1 h2
            simp [hfd, hm])]
          simp only [getP, List.map_map, Function.comp_def, A.get_of] at hr ⊢
          simp only [Option.map_eq_some_iff] at hr ⊢
          obtain ⟨cs, hcs, rfl⟩ := hr
          exact ⟨_, ⟨cs, hcs, rfl⟩, rfl⟩
        · cases hc
      · rename_i n e hfs
        simp only [Option.map_eq_some_iff] at hc
        obtain ⟨m, hm, rfl⟩ := hc
        refine ⟨fun r hr => ?_, rfl⟩
        simp only [evIO] at hr
        simp only [evBuild, hz, Option.bind_some, hfs, hm]
        rw [fill_eq _ (fun i => (i * m, m)) _ _ (fun p hp => rfl)]
        simp only [getP, List.map_map, Function.comp_def, A.get_of] at hr ⊢
        simp only [Option.map_eq_some_iff] at hr ⊢
        obtain ⟨cs, hcs, rfl⟩ := hr
        exact ⟨_, ⟨cs, hcs, rfl⟩, rfl⟩
      · cases hc
  case buildSlice t len parts =>
    cases het : elemT P t with
    | none => simp [het] at hc
    | some et =>
      simp only [het, Option.bind_some] at hc
      split at hc
      · rename_i sz z hsz hz
        split at hc
        · rename_i hcond
          cases hc
          refine ⟨fun r hr => ?_, by simp only [needI, idsP, getP, List.map_map, List.flatMap_map, Function.comp_def, A.get_of]⟩
          simp only [evIO] at hr
          split at hr
          · rename_i h0
            simp only [evBsl, evBuildSlice, h0, het, hsz, hz, if_pos hcond]
            rw [fill_eq _ (fun i => (i * sz, sz)) _ _ (fun p hp => rfl)]
            simp only [frzP, idsP, getP, List.map_map, List.flatMap_map, Function.comp_def, A.get_of] at hr ⊢
            exact hr
          · cases hr
        · cases hc
      · cases hc
  case makeSlice t l c =>
    cases het : elemT P t with
    | none => simp [het] at hc
    | some et =>
      simp only [het, Option.bind_some] at hc
      split at hc
      · rename_i i z hi hz
        split at hc
        · rename_i hcond
          cases hc
          refine ⟨fun r hr => ?_, rfl⟩
          simp only [evIO, A.get_of] at hr
          split at hr
          · rename_i l' c' h0 hl hc'
            split at hr
            · rename_i hb
              simp only [evMakeSlice, h0, hl, hc', het, hi, hz]
              rw [if_pos ⟨hcond.1, hcond.2, hb.1, hb.2.1, hb.2.2.1, hb.2.2.2⟩]
              exact hr
            · cases hr
          · cases hr
        · cases hc
      · cases hc
  case slice t x lo hi mx =>
    split at hc
    · cases hc
      refine ⟨fun r hr => ?_, by simp only [needI, A.get_of]⟩
      simp only [evIO, A.get_of, evPure_lean] at hr
      generalize hv : opd τ x = vx at hr ⊢
      cases vx with
      | sc u => cases u <;> first | exact hr | cases hr
      | _ => cases hr
    · cases het : elemT P t with
      | none => simp [het] at hc
      | some et =>
        simp only [het, Option.bind_some, Option.map_eq_some_iff] at hc
        obtain ⟨sz, hsz, rfl⟩ := hc
        refine ⟨fun r hr => ?_, by simp only [needI, A.get_of]⟩
        have e1 : (lo.map A.of).map (A.get τ) = lo.map (opd τ) := by cases lo <;> simp [A.get_of]
        have e2 : (hi.map A.of).map (A.get τ) = hi.map (opd τ) := by cases hi <;> simp [A.get_of]
        have e3 : (mx.map A.of).map (A.get τ) = mx.map (opd τ) := by cases mx <;> simp [A.get_of]
        simp only [evIO, A.get_of, evPure_lean, e1, e2, e3] at hr
        have hs : ∀ v, evSlice P h t v (lo.map (opd τ)) (hi.map (opd τ)) (mx.map (opd τ)) = evSliceI h sz v (lo.map (opd τ)) (hi.map (opd τ)) (mx.map (opd τ)) := fun v => by
          simp only [evSlice, het, hsz, Option.bind_some]
        simp only [hs]
        generalize hv : opd τ x = vx at hr ⊢
        cases vx with
        | sc u => cases u <;> exact hr
        | _ => exact hr
  case binOp op t x y t' => cases hc; simp [evIO, needI, A.get_of, evBin, evPure_lean]
  case unOp op t x => cases hc; simp [evIO, needI, A.get_of, evUn, evPure_lean]
  case range t x =>
    split at hc
    · rename_i hst
      cases hc
      refine ⟨fun r hr => ?_, rfl⟩
      simp only [evIO, A.get_of] at hr
      generalize opd τ x = vx at hr ⊢
      cases vx with
      | sc u =>
        cases u with
        | string s =>
          dsimp only at hr ⊢
          rw [if_pos hst]
          generalize h nid = ob at hr ⊢
          cases ob <;> first | exact hr | cases hr
        | _ => cases hr
      | _ => cases hr
    · cases hc
      refine ⟨fun r hr => (by cases hr), ?_⟩
      simp only [needI, need, need0, mapNeed, lean, ho, List.nil_append]
  case next x str =>
    split at hc
    · rename_i hst
      cases hc
      subst hst
      refine ⟨fun r hr => ?_, ?_⟩
      · simp only [evIO, A.get_of] at hr
        generalize opd τ x = vx at hr ⊢
        cases vx with
        | ref id idx off =>
          cases idx with
          | zero =>
            cases off with
            | zero =>
              simp only [] at hr ⊢
              generalize h id = ob at hr ⊢
              cases ob with
              | ext x =>
                cases x with
                | iter s pos => simp only [if_true]; exact hr
                | map => cases hr
              | _ => cases hr
            | succ => cases hr
          | succ => cases hr
        | _ => cases hr
      · simp only [needI, A.get_of]
        generalize opd τ x = vx
        cases vx <;> rfl
    · cases hc
      refine ⟨fun r hr => (by cases hr), ?_⟩
      simp only [needI, need, need0, mapNeed, lean, ho, List.nil_append]
  case nilCheck x =>
    cases hc
    refine ⟨fun r hr => ?_, rfl⟩
    simp only [evIO, A.get_of, evPure_lean] at hr
    generalize opd τ x = vx at hr ⊢
    cases vx <;> exact hr
  case makeFunc =>
    cases hc
    refine ⟨fun r hr => ?_, rfl⟩
    simp only [evIO, map_of] at hr
    exact hr
  case call c =>
    cases hcal : c.callee with
    | invoke r m => simp only [hcal] at hc; cases hc
    | value f =>
      cases f with
      | func f =>
        simp only [hcal] at hc
        cases hc
        refine ⟨fun r hr => orE_left ?_, ?_⟩
        · simp only [evIO, map_of] at hr
          exact hr
        · simp only [needI, List.flatMap_map, A.get_of, List.nil_append]
      | _ =>
        simp only [hcal] at hc
        cases hc
        refine ⟨fun r hr => orE_left ?_, ?_⟩
        · simp only [evIO] at hr; cases hr
        · simp only [needI, List.flatMap_map, A.get_of, List.nil_append]
    | builtin b =>
      simp only [hcal] at hc
      cases b
      case len =>
        simp only at hc ⊢
        split at hc
        · rename_i x t hxs hts
          simp only [hxs, hts]
          split at hc
          · rename_i e hut
            cases hc
            refine ⟨fun r hr => orE_left ?_, by simp [needI, A.get_of]⟩
            simp only [evIO, A.get_of, evPure_lean] at hr
            generalize opd τ x = vx at hr ⊢
            cases vx with
            | sc u => exact hr
            | _ => simp only [hut]; exact hr
          · rename_i kt et hut
            cases hc
            refine ⟨fun r hr => ?_, by simp [needI, A.get_of]⟩
            simp only [evIO, A.get_of, evPure_lean] at hr
            simp only [mapLen, hut]
            generalize opd τ x = vx at hr ⊢
            cases vx with
            | sc u => exact orE_left hr
            | mapr id =>
              refine orE_right rfl ?_
              simp only [mapOf] at hr ⊢
              generalize h id = ob at hr ⊢
              cases ob with
              | ext e => cases e <;> exact hr
              | _ => cases hr
            | mapf ks' vs' => exact orE_right rfl hr
            | _ => cases hr
          · cases hc
            refine ⟨fun r hr => orE_left ?_, by simp [needI, A.get_of]⟩
            simp only [evIO, A.get_of, evPure_lean] at hr
            generalize opd τ x = vx at hr ⊢
            cases vx with
            | sc u => exact hr
            | _ => cases hr
        · cases hc
      case append =>
        simp only at hc ⊢
        split at hc
        · rename_i x y t t' hxs hts
          simp only [hxs, hts]
          split at hc
          · rename_i htt
            simp only [if_pos htt]
            cases het : elemT P t with
            | none => simp [het] at hc
            | some et =>
              simp only [het, Option.bind_some] at hc
              split at hc
              · rename_i i z hi hz
                split at hc
                · rename_i hcond
                  cases hc
                  refine ⟨fun r hr => orE_left ?_, by simp [needI, A.get_of]⟩
                  simp only [evIO, A.get_of] at hr
                  simp only [evAppend, het]
                  generalize h nid = ob at hr ⊢
                  cases ob with
                  | unborn =>
                    simp only [hi, hz, if_pos hcond, Option.bind_eq_some_iff] at hr ⊢
                    obtain ⟨ys, hys, hr⟩ := hr
                    refine ⟨ys, hys, ?_⟩
                    generalize opd τ x = vx at hr ⊢
                    cases vx with
                    | own id off len =>
                      simp only [] at hr ⊢
                      generalize h id = ob2 at hr ⊢
                      cases ob2 with
                      | live s es mu =>
                        simp only [] at hr ⊢
                        split at hr
                        · rename_i hcc
                          have h6 := (okE_all i.size ys).1 hcc.2.2.2.2
                          rw [if_pos ⟨hcc.1, hcc.2.1, hcc.2.2.1, hcc.2.2.2.1, by rw [hcc.1]; exact h6.1, h6.2⟩, hcc.1]
                          exact hr
                        · cases hr
                      | _ => cases hr
                    | mt =>
                      simp only [] at hr ⊢
                      split at hr
                      · rename_i hcc
                        have h6 := (okE_all i.size ys).1 hcc.2.2
                        rw [if_pos ⟨hcc.1, hcc.2.1, h6.1, h6.2⟩]
                        exact hr
                      · cases hr
                    | sc u =>
                      cases u with
                      | slice A n c =>
                        cases A with
                        | none =>
                          cases n with
                          | zero =>
                            cases c with
                            | zero =>
                              simp only [] at hr ⊢
                              split at hr
                              · rename_i hcc
                                have h6 := (okE_all i.size ys).1 hcc.2.2
                                rw [if_pos ⟨hcc.1, hcc.2.1, h6.1, h6.2⟩]
                                exact hr
                              · cases hr
                            | succ => cases hr
                          | succ => cases hr
                        | some => cases hr
                      | _ => cases hr
                    | _ => cases hr
                  | _ => cases hr
                · cases hc
              · cases hc
          · cases hc
        · cases hc
      case delete =>
        simp only at hc ⊢
        split at hc
        · rename_i x y t t' hxs hts
          simp only [hxs, hts]
          rw [Option.map_eq_some_iff] at hc
          obtain ⟨⟨kt, et, ks⟩, hq, rfl⟩ := hc
          refine ⟨fun r hr => ?_, by simp [needI, A.get_of]⟩
          simp only [evIO, A.get_of, evPure_lean] at hr
          cases hv : opd τ x with
          | mapr id =>
            rw [hv] at hr
            refine orE_right (evPure_mapr (x := x) (id := id) (by rw [ho]; simp only [Op.operands, Call.operands]; rw [← Array.toArray_toList (xs := c.args), hxs]; simp) hv) ?_
            simp only [mapDel, hq] at hr ⊢
            generalize h id = ob at hr ⊢
            generalize kvOf (aggT P kt) (opd τ y) = kv at hr ⊢
            cases ob with
            | ext e =>
              cases e with
              | map keys vs =>
                cases kv with
                | none => cases hr
                | some kv =>
                  simp only [delI, idxI, idxOf] at hr ⊢
                  generalize (if kv.cells.size = ks.length then keyFind (aggT P kt) ks kv.cells.toList keys 0 else none) = ix at hr ⊢
                  cases ix with
                  | none => cases hr
                  | some j => cases j <;> exact hr
              | iter => cases kv <;> cases hr
            | _ => cases kv <;> cases hr
          | _ => rw [hv] at hr; exact orE_left hr
        · cases hc
      all_goals
        simp only at hc ⊢
        cases hc
        exact ⟨fun r hr => orE_left (by simpa only [evIO, evPure_lean] using hr), rfl⟩
  case makeMap t r =>
    rw [Option.map_eq_some_iff] at hc
    obtain ⟨q, hq, rfl⟩ := hc
    refine ⟨fun r' hr => ?_, by simp [needI]⟩
    have e1 : (r.map A.of).map (A.get τ) = r.map (opd τ) := by cases r <;> simp [A.get_of]
    simp only [evIO, e1] at hr
    by_cases h0 : evPure P (opd τ) o = none
    · refine orE_right h0 ?_
      simp only [mapMake, hq]
      generalize r.map (opd τ) = vr at hr ⊢
      generalize h nid = ob at hr ⊢
      unfold mmkI at hr
      split at hr
      · exact hr
      · exact hr
      · cases hr
    · exfalso
      apply h0
      unfold evPure
      split
      · split
        · rfl
        · rw [show runPure P (execOp (fun x => ((opd τ x).conc).getD undef) o) = none from ?_]
          simp only [execOp, ho]
          generalize r.map _ = vr
          exact makeMap_impure t vr _
      · rfl
  case mapUpdate t m k v =>
    rw [Option.map_eq_some_iff] at hc
    obtain ⟨⟨kt, et, ks⟩, hq, rfl⟩ := hc
    refine ⟨fun r hr => ?_, by simp [needI, A.get_of]⟩
    simp only [evIO, A.get_of] at hr
    cases hv : opd τ m with
    | mapr id =>
      rw [hv] at hr
      refine orE_right (evPure_mapr (x := m) (id := id) (by rw [ho]; simp [Op.operands]) hv) ?_
      simp only [mapPut, hq] at hr ⊢
      generalize h id = ob at hr ⊢
      generalize kvOf (aggT P kt) (opd τ k) = kv at hr ⊢
      cases ob with
      | ext e =>
        cases e with
        | map keys vs =>
          cases kv with
          | none => cases hr
          | some kv =>
            simp only [putI, idxI, idxOf] at hr ⊢
            generalize (if kv.cells.size = ks.length then keyFind (aggT P kt) ks kv.cells.toList keys 0 else none) = ix at hr ⊢
            cases ix with
            | none => cases hr
            | some j => cases j <;> exact hr
        | iter => cases kv <;> cases hr
      | _ => cases kv <;> cases hr
    | _ => rw [hv] at hr; cases hr
  case lookup t m k b =>
    rw [Option.bind_eq_some_iff] at hc
    obtain ⟨⟨kt, et, ks⟩, hq, hc⟩ := hc
    rw [Option.map_eq_some_iff] at hc
    obtain ⟨z, hz, rfl⟩ := hc
    refine ⟨fun r hr => ?_, by simp [needI, A.get_of]⟩
    simp only [evIO, A.get_of, evPure_lean] at hr
    cases hv : opd τ m with
    | mapr id =>
      rw [hv] at hr
      refine orE_right (evPure_mapr (x := m) (id := id) (by rw [ho]; simp [Op.operands]) hv) ?_
      simp only [mapLook, hq, mapOf] at hr ⊢
      generalize h id = ob at hr ⊢
      generalize kvOf (aggT P kt) (opd τ k) = kv at hr ⊢
      cases ob with
      | ext e =>
        cases e with
        | map keys vs =>
          cases kv with
          | none => cases hr
          | some kv =>
            simp only [lookI, idxI, idxOf] at hr ⊢
            generalize (if kv.cells.size = ks.length then keyFind (aggT P kt) ks kv.cells.toList keys 0 else none) = ix at hr ⊢
            cases ix with
            | none => cases hr
            | some j => cases j with
              | none => simp only [hz]; exact hr
              | some j => exact hr
        | iter => cases kv <;> cases hr
      | _ => cases kv <;> cases hr
    | mapf keys vs =>
      rw [hv] at hr
      refine orE_right (evPure_mapf (x := m) (by rw [ho]; simp [Op.operands]) hv) ?_
      simp only [mapLook, hq, mapOf] at hr ⊢
      generalize kvOf (aggT P kt) (opd τ k) = kv at hr ⊢
      cases kv with
      | none => cases hr
      | some kv =>
        simp only [lookI, idxI, idxOf] at hr ⊢
        generalize (if kv.cells.size = ks.length then keyFind (aggT P kt) ks kv.cells.toList keys 0 else none) = ix at hr ⊢
        cases ix with
        | none => cases hr
        | some j => cases j with
          | none => simp only [hz]; exact hr
          | some j => exact hr
    | _ => rw [hv] at hr; exact orE_left hr
  all_goals
    cases hc
    exact ⟨fun r hr => by simpa only [evIO, evPure_lean] using hr, rfl⟩

end Go.Idl
