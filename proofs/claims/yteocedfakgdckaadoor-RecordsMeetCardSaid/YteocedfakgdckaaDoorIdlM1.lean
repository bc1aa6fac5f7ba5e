import Derived.Orders
import Derived.Laws.Sem
import Derived.Below
import Derived.Laws.Cells
import Derived.Laws.CopyRow
import Derived.Laws.Entries
import Derived.OrdersIn
import Derived.TacticsIn
import Derived.Laws.MakeOwn
import Derived.Laws.Append
import Derived.Laws.AppendOwn
namespace Go.Idl
set_option linter.all false
open Go.RowKit
class Laid where
  ok : World → Prop
  keep : ∀ {w w' : World}, Below w.heap.size w w' → ok w → ok w'
structure Bel (B : Nat) (w w' : World) : Prop where
  os : w'.os = w.os
  tape : w'.tape = w.tape
  output : w'.output = w.output
  size : w.heap.size ≤ w'.heap.size
  block : ∀ k, k < B → w'.heap[k]? = w.heap[k]?
  dr : True
theorem Bel.below {B : Nat} {w w' : World} (h : Bel B w w') : Below B w w' := ⟨h.os, h.tape, h.output, h.size, h.block⟩
theorem Bel.refl (B : Nat) (w : World) : Bel B w w := ⟨rfl, rfl, rfl, Nat.le_refl _, fun _ _ => rfl, trivial⟩
theorem Bel.trans {B : Nat} {a b c : World} (h : Bel B a b) (k : Bel B b c) : Bel B a c :=
  ⟨k.os.trans h.os, k.tape.trans h.tape, k.output.trans h.output, Nat.le_trans h.size k.size, fun i hi => (k.block i hi).trans (h.block i hi), trivial⟩
theorem Bel.mono {B B' : Nat} {w w' : World} (h : Bel B w w') (hB : B' ≤ B) : Bel B' w w' := ⟨h.os, h.tape, h.output, h.size, fun k hk => h.block k (Nat.lt_of_lt_of_le hk hB), h.dr⟩
theorem Bel.alloc {B : Nat} {a w : World} (h : Bel B a w) (hB : B ≤ w.heap.size) (o : Obj) : Bel B a (w.alloc o) :=
  h.trans ⟨rfl, rfl, rfl, by simp, fun k hk => Below.heap_alloc _ _ _ (by omega), trivial⟩
theorem Bel.cell {B : Nat} {w w' : World} (h : Bel B w w') {p : Addr} (hp : p.block < B) : w'.cell? p = w.cell? p := h.below.cell hp
theorem Below.bel {B : Nat} {w w' : World} (h : Below B w w') (hd : True := trivial) : Bel B w w' := ⟨h.os, h.tape, h.output, h.size, h.block, trivial⟩
instance (priority := low) Laid.none : Laid := ⟨fun _ => True, fun _ h => h⟩
inductive V where
  | any
  | sc (v : Value)
  | agg (cs : List V)
  | slice (sz : Nat) (es : List V)
  | own (id off len : Nat)
  | ref (id idx off : Nat)
  | elem (e : V) (off : Nat)
  | tup (vs : List V)
  | iface (t : TypeId) (v : V)
  | fn (f : Fn) (first captured : List V)
  | mt
  | mapf (ks : List Value) (vs : List V)
  | mapr (id : Nat)
def V.cells : V → List V
  | .agg cs => cs
  | v => [v]
structure Place where
  blk : Nat
  off : Nat
  sz : Nat
abbrev Places := Nat → Option Place
abbrev Imm := Nat → Nat → Prop
def noPlaces : Places := fun _ => none
inductive Rep (I : Imm) (w : World) : Places → V → Value → Prop
  | any (γ : Places) (v : Value) : Rep I w γ .any v
  | sc (γ : Places) (v : Value) : Rep I w γ (.sc v) v
  | agg (γ : Places) (cs : List V) (vs : Array Value) (hl : cs.length = vs.size) (h : ∀ (j : Nat) (c : V) (u : Value), cs[j]? = some c → vs[j]? = some u → Rep I w γ c u) :
      Rep I w γ (.agg cs) (.agg vs)
  | nilslice (γ : Places) (sz : Nat) (A : Option Addr) (cap : Nat) : Rep I w γ (.slice sz []) (.slice A 0 cap)
  | slice (γ : Places) (sz : Nat) (es : List V) (g o cap : Nat) (f : Nat → Nat → Value) (hcap : es.length ≤ cap)
      (hsz : ∀ e, e ∈ es → e.cells.length = sz)
      (hc : ∀ i j, i < es.length → j < sz → I g (o + i * sz + j) ∧ w.cell? ⟨g, o + i * sz + j, none⟩ = some (f i j))
      (h : ∀ (i j : Nat) (e c : V), es[i]? = some e → e.cells[j]? = some c → Rep I w noPlaces c (f i j)) :
      Rep I w γ (.slice sz es) (.slice (some ⟨g, o, none⟩) es.length cap)
  | own (γ : Places) (id off len cap : Nat) (p : Place) (c : Array Value) (t : TypeId) (m : Nat × Nat) (hp : γ id = some p) (hcap : len ≤ cap)
      (hb : w.heap[p.blk]? = some (.cells c t m)) (hroom : p.off + (off + cap) * p.sz ≤ c.size) :
      Rep I w γ (.own id off len) (.slice (some ⟨p.blk, p.off + off * p.sz, none⟩) len cap)
  | own0 (γ : Places) (id off : Nat) (A : Option Addr) : Rep I w γ (.own id off 0) (.slice A 0 0)
  | mt (γ : Places) (A : Option Addr) : Rep I w γ .mt (.slice A 0 0)
  | mapf (γ : Places) (ks : List Value) (vs : List V) (r clock : Nat) (ents : Array MapEntry) (hI : I r 0) (hr : w.heap[r]? = some (.map ents clock)) (hl : ks.length = vs.length)
      (hk : ents.toList.map (·.key) = ks) (h : ∀ (j : Nat) (x : V) (e : MapEntry), vs[j]? = some x → ents[j]? = some e → Rep I w noPlaces x e.val) :
      Rep I w γ (.mapf ks vs) (.map (some r))
  | mapr (γ : Places) (id : Nat) (p : Place) (hp : γ id = some p) : Rep I w γ (.mapr id) (.map (some p.blk))
  | ref (γ : Places) (id idx off : Nat) (p : Place) (hp : γ id = some p) :
      Rep I w γ (.ref id idx off) (.pointer (some ⟨p.blk, p.off + idx * p.sz + off, none⟩))
  | elem (γ : Places) (e : V) (off g o : Nat) (f : Nat → Value)
      (hc : ∀ j, j < e.cells.length → I g (o + j) ∧ w.cell? ⟨g, o + j, none⟩ = some (f j))
      (h : ∀ (j : Nat) (c : V), e.cells[j]? = some c → Rep I w noPlaces c (f j)) :
      Rep I w γ (.elem e off) (.pointer (some ⟨g, o + off, none⟩))
  | tup (γ : Places) (cs : List V) (vs : Array Value) (hl : cs.length = vs.size) (h : ∀ (j : Nat) (c : V) (u : Value), cs[j]? = some c → vs[j]? = some u → Rep I w γ c u) :
      Rep I w γ (.tup cs) (.tuple vs)
  | iface (γ : Places) (t : TypeId) (x : V) (u : Value) (h : Rep I w γ x u) : Rep I w γ (.iface t x) (.iface t u)
  | fn (γ : Places) (f : Fn) (xs ys : List V) (us vs : Array Value) (hx : xs.length = us.size) (hy : ys.length = vs.size)
      (h1 : ∀ (j : Nat) (c : V) (u : Value), xs[j]? = some c → us[j]? = some u → Rep I w γ c u)
      (h2 : ∀ (j : Nat) (c : V) (u : Value), ys[j]? = some c → vs[j]? = some u → Rep I w γ c u) :
      Rep I w γ (.fn f xs ys) (.func f us vs)
structure Pres (I : Imm) (w w' : World) : Prop where
  cell : ∀ g x, I g x → w'.cell? ⟨g, x, none⟩ = w.cell? ⟨g, x, none⟩
  size : ∀ (g : Nat) (c : Array Value) (t : TypeId) (m : Nat × Nat), w.heap[g]? = some (.cells c t m) → ∃ c', w'.heap[g]? = some (.cells c' t m) ∧ c'.size = c.size
  raw : ∀ (g : Nat) (es : Array MapEntry) (n : Nat), I g 0 → w.heap[g]? = some (.map es n) → w'.heap[g]? = some (.map es n)
theorem Pres.refl (I : Imm) (w : World) : Pres I w w := ⟨fun _ _ _ => rfl, fun _ c _ _ h => ⟨c, h, rfl⟩, fun _ _ _ _ h => h⟩
theorem Rep.mono {I I' : Imm} {w w' : World} {γ : Places} {x : V} {v : Value} (h : Rep I w γ x v) (hp : Pres I w w') (hI : ∀ g x, I g x → I' g x) :
    ∀ {γ' : Places}, (∀ id p, γ id = some p → γ' id = some p) → Rep I' w' γ' x v := by
  induction h with
  | any γ v => intro γ' _; exact .any _ _
  | sc γ v => intro γ' _; exact .sc _ _
  | agg γ cs vs hl h ih => intro γ' hγ; exact .agg _ _ _ hl fun j c u hc hu => ih j c u hc hu hγ
  | nilslice γ sz A cap => intro γ' _; exact .nilslice _ _ _ _
  | slice γ sz es g o cap f hcap hsz hc h ih =>
    intro γ' _
    refine .slice _ _ _ _ _ _ f hcap hsz (fun i j hi hj => ?_) fun i j e c he hj => ih i j e c he hj fun _ _ h => h
    obtain ⟨h1, h2⟩ := hc i j hi hj
    exact ⟨hI _ _ h1, (hp.cell _ _ h1).trans h2⟩
  | own γ id off len cap p c t m hp' hcap hb hroom =>
    intro γ' hγ
    obtain ⟨c', h1, h2⟩ := hp.size _ _ _ _ hb
    exact .own _ _ _ _ _ p c' t m (hγ _ _ hp') hcap h1 (by omega)
  | own0 γ id off A => intro γ' _; exact .own0 _ _ _ _
  | mt γ A => intro γ' _; exact .mt _ _
  | mapf γ ks vs r clock ents hI0 hr hl hk h ih =>
    intro γ' _
    exact .mapf _ _ _ _ _ _ (hI _ _ hI0) (hp.raw _ _ _ hI0 hr) hl hk fun j x e hx he => ih j x e hx he fun _ _ h => h
  | mapr γ id p hp' => intro γ' hγ; exact .mapr _ _ _ (hγ _ _ hp')
  | ref γ id idx off p hp' => intro γ' hγ; exact .ref _ _ _ _ _ (hγ _ _ hp')
  | elem γ e off g o f hc h ih =>
    intro γ' _
    refine .elem _ _ _ _ _ f (fun j hj => ?_) fun j c hc => ih j c hc fun _ _ h => h
    obtain ⟨h1, h2⟩ := hc j hj
    exact ⟨hI _ _ h1, (hp.cell _ _ h1).trans h2⟩
  | tup γ cs vs hl h ih => intro γ' hγ; exact .tup _ _ _ hl fun j c u hc hu => ih j c u hc hu hγ
  | iface γ t x u h ih => intro γ' hγ; exact .iface _ _ _ _ (ih hγ)
  | fn γ f xs ys us vs hx hy h1 h2 ih1 ih2 => intro γ' hγ; exact .fn _ _ _ _ _ _ hx hy (fun j c u hc hu => ih1 j c u hc hu hγ) fun j c u hc hu => ih2 j c u hc hu hγ
def V.ofV : Value → V
  | .agg cs => .agg (cs.toList.map .sc)
  | .tuple vs => .tup (vs.toList.map fun | .agg cs => .agg (cs.toList.map .sc) | v => .sc v)
  | v => .sc v
theorem rep_aggs {I : Imm} {w : World} {γ : Places} (cs : Array Value) : Rep I w γ (.agg (cs.toList.map .sc)) (.agg cs) := by
  refine .agg _ _ _ (by simp) fun j c u hc hu => ?_
  simp at hc
  obtain ⟨a, ha, rfl⟩ := hc
  rw [hu] at ha
  cases ha
  exact .sc _ _
theorem Rep.ofV {I : Imm} {w : World} {γ : Places} (v : Value) : Rep I w γ (V.ofV v) v := by
  cases v <;> simp only [V.ofV] <;> try exact .sc _ _
  · exact rep_aggs _
  · rename_i vs
    refine .tup _ _ _ (by simp) fun j c u hc hu => ?_
    simp at hc
    obtain ⟨a, ha, rfl⟩ := hc
    rw [hu] at ha
    cases ha
    split
    · exact rep_aggs _
    · exact .sc _ _
def V.conc1 : V → Option Value
  | .sc v => some v
  | _ => none
def concL : List V → Option (List Value)
  | [] => some []
  | c :: cs => match c.conc1, concL cs with
    | some v, some vs => some (v :: vs)
    | _, _ => none
def V.conc : V → Option Value
  | .sc v => some v
  | .agg cs => (concL cs).map fun l => .agg l.toArray
  | _ => none
theorem concL_get {cs : List V} : ∀ {l : List Value}, concL cs = some l → cs = l.map .sc := by
  induction cs with
  | nil => intro l h; simp [concL] at h; subst h; rfl
  | cons c cs ih =>
    intro l h
    simp only [concL] at h
    split at h
    · rename_i v vs h1 h2
      simp at h
      subst h
      cases c <;> simp [V.conc1] at h1
      subst h1
      simp [← ih h2]
    · simp at h
theorem Rep.sc_eq {I : Imm} {w : World} {γ : Places} {u v : Value} (h : Rep I w γ (.sc u) v) : v = u := by cases h; rfl
theorem Rep.conc {I : Imm} {w : World} {γ : Places} {x : V} {u v : Value} (h : Rep I w γ x v) (hc : x.conc = some u) : v = u := by
  cases x <;> simp [V.conc] at hc
  · subst hc; exact h.sc_eq
  · obtain ⟨l, hl, rfl⟩ := hc
    have := concL_get hl
    subst this
    cases h with
    | agg _ _ vs hl h =>
      congr 1
      apply Array.ext
      · simpa using hl.symm
      · intro i h1 h2
        have h3 := h i (.sc l[i]) vs[i] (by simp) (by simp)
        have := h3.sc_eq
        simpa using this
def runPure {α : Type} (P : Program) : Sem α → Option α
  | .pure a => some a
  | .program k => runPure P (k P)
  | _ => none
theorem runPure_run {α : Type} {P : Program} {s : Sem α} : ∀ {a : α}, runPure P s = some a → ∀ w, s.run P w = .ok a w := by
  induction s with
  | pure b => intro a h w; simp [runPure] at h; subst h; rfl
  | program k ih => intro a h w; simp only [runPure] at h; simp only [Sem.run]; exact ih P h w
  | _ => intro a h; simp [runPure] at h
end Go.Idl
namespace Go.Idl
set_option linter.all false
inductive Ext where
  | iter (s : ByteArray) (pos : Nat)
  | map (ks : List Value) (vs : List V)
  | raw (o : Go.Obj)
  | miter (ks : List Value) (vs : List V) (left : List Nat) (last : Option Nat)
inductive Obj where
  | unborn
  | dead
  | live (sz : Nat) (es : List V) (mu : Bool)
  | ext (x : Ext)
abbrev Heap := Nat → Obj
abbrev Specs := FuncId → Option (List V → Option V)
section
variable (P : Program)
def sizeT (t : TypeId) : Option Nat := (P.info? t).map (·.size)
def zeroT (t : TypeId) : Option Value := (P.info? t).bind (·.zero)
def aggT (t : TypeId) : Bool := match P.underlying t with
  | some (.struct _) => true
  | some (.array _ _) => true
  | _ => false
def elemT (t : TypeId) : Option TypeId := match P.underlying t with
  | some (.slice e) => some e
  | _ => none
def strT (t : TypeId) : Bool := match P.underlying t with
  | some .string => true
  | _ => false
def boolT (t : TypeId) : Bool := match P.underlying t with
  | some .bool => true
  | _ => false
def fieldT (t : TypeId) (f : Nat) : Option Field := match P.underlying t with
  | some (.struct fs) => fs[f]?
  | _ => none
end
def opd (τ : Nat → V) : Operand → V
  | .tmp t => τ t
  | .const v => V.ofV v
  | .global g => .sc (.pointer (some ⟨g, 0, none⟩))
  | .func f => .sc (.func (.func f) #[] #[])
def V.cellOk : V → Bool
  | .any => false
  | .tup _ => false
  | .agg _ => false
  | .sc v => v.oneCell'
  | _ => true
def V.solid : V → Bool
  | .agg cs => cs.all V.cellOk
  | v => v.cellOk
def V.isFc : V → Bool
  | .sc v => v.oneCell'
  | .slice _ _ => true
  | .mt => true
  | _ => false
def V.isF : V → Bool
  | .agg cs => cs.all V.isFc
  | v => v.isFc
def V.idsC : V → List Nat
  | .own id _ _ => [id]
  | _ => []
def V.ids : V → List Nat
  | .own id _ _ => [id]
  | .agg cs => cs.flatMap V.idsC
  | _ => []
def freezeC (h : Heap) : V → Option V
  | .own id off len => match h id with
    | .live sz es _ => if off + len ≤ es.length ∧ es.all V.isF = true then some (.slice sz ((es.drop off).take len)) else none
    | _ => none
  | .any => some .any
  | .sc v => some (.sc v)
  | .slice sz es => some (.slice sz es)
  | .elem e off => some (.elem e off)
  | .mt => some .mt
  | _ => none
def freezeL (h : Heap) : List V → Option (List V)
  | [] => some []
  | c :: cs => match freezeC h c, freezeL h cs with
    | some x, some xs => some (x :: xs)
    | _, _ => none
def freeze (h : Heap) : V → Option V
  | .agg cs => (freezeL h cs).map .agg
  | v => freezeC h v
def freezes (h : Heap) : List V → Option (List V)
  | [] => some []
  | c :: cs => match freeze h c, freezes h cs with
    | some x, some xs => some (x :: xs)
    | _, _ => none
def mapR (h : Heap) : V → Option V
  | .mapr id => match h id with
    | .ext (.map ks vs) => if vs.all V.isF = true then some (.mapf ks vs) else none
    | _ => none
  | _ => none
def orO : Option V → Option V → Option V
  | some a, _ => some a
  | none, b => b
def freezeR (h : Heap) (v : V) : Option V := orO (freeze h v) (mapR h v)
def freezesR (h : Heap) : List V → Option (List V)
  | [] => some []
  | c :: cs => match freezeR h c, freezesR h cs with
    | some x, some xs => some (x :: xs)
    | _, _ => none
def froze (h : Heap) (ids : List Nat) : List (Nat × Obj) := ids.filterMap fun id => match h id with
  | .live sz es true => if es.all V.isF = true then some (id, .live sz es false) else none
  | _ => none
def readC (P : Program) (t : TypeId) (cells : List V) (off : Nat) : Option V :=
  if aggT P t then (sizeT P t).bind fun n => if off + n ≤ cells.length then some (.agg ((cells.drop off).take n)) else none
  else match P.underlying t with
    | some _ => cells[off]?
    | none => none
def splice (cells : List V) (off : Nat) (new : List V) : List V := cells.take off ++ new ++ cells.drop (off + new.length)
def V.write (e : V) (off : Nat) (x : V) : V := if x.cells.length = e.cells.length then x else .agg (splice e.cells off x.cells)
def V.len : V → Option Nat
  | .slice _ es => some es.length
  | .own _ _ len => some len
  | .mt => some 0
  | .sc (.slice _ n _) => some n
  | _ => none
def V.elems (h : Heap) (sz : Nat) : V → Option (List V)
  | .slice s es => if s = sz ∨ es = [] then some es else none
  | .own id off len => match h id with
    | .live s es _ => if s = sz ∧ off + len ≤ es.length then some ((es.drop off).take len) else none
    | _ => none
  | .mt => some []
  | .sc (.slice none 0 0) => some []
  | _ => none
def fillV (place : Nat → Option (Nat × Nat)) (cells : List V) : List (Nat × V) → Option (List V)
  | [] => some cells
  | (i, v) :: rest =>
    match place i with
    | none => none
    | some (off, size) =>
      if v.solid = true ∧ v.cells.length = size ∧ off + size ≤ cells.length then fillV place (splice cells off v.cells) rest else none
def chunks (agg : Bool) (sz : Nat) (cells : List V) : Nat → List V
  | 0 => []
  | n + 1 => (if agg then .agg (cells.take sz) else cells.headD .any) :: chunks agg sz (cells.drop sz) n
def evPure (P : Program) (ρ : Operand → V) (o : Oper) : Option (V × List (Nat × Obj)) :=
  if o.op.operands.all (fun x => (ρ x).conc.isSome) then
    match o.op with
    | .select _ _ => none
    | _ => match runPure P (execOp (fun x => ((ρ x).conc).getD undef) o) with
      | some (.value v) => some (V.ofV v, [])
      | _ => none
  else none
def shI (op : BinOp) (k : IntKind) (a b : Int) : Option Value :=
  match op with
  | .shl => if b < 0 then none else some (.int k (k.wrap (a * 2 ^ (min b.toNat k.bits))))
  | .shr => if b < 0 then none else some (.int k (a.fdiv (2 ^ (min b.toNat k.bits))))
  | _ => none
def andI (k : IntKind) (a b : Int) : Int := k.wrap (BitVec.ofInt k.bits a &&& BitVec.ofInt k.bits b).toNat
def orI (k : IntKind) (a b : Int) : Int := k.wrap (BitVec.ofInt k.bits a ||| BitVec.ofInt k.bits b).toNat
def xorI (k : IntKind) (a b : Int) : Int := k.wrap (BitVec.ofInt k.bits a ^^^ BitVec.ofInt k.bits b).toNat
def binI (op : BinOp) (k : IntKind) (a b : Int) : Option Value :=
  match op with
  | .add => some (.int k (k.wrap (a + b)))
  | .sub => some (.int k (k.wrap (a - b)))
  | .mul => some (.int k (k.wrap (a * b)))
  | .quo => if b = 0 then none else some (.int k (k.wrap (a.tdiv b)))
  | .rem => if b = 0 then none else some (.int k (a.tmod b))
  | .eql => some (.bool (a == b))
  | .neq => some (.bool (a != b))
  | .lss => some (.bool (decide (a < b)))
  | .leq => some (.bool (decide (a ≤ b)))
  | .gtr => some (.bool (decide (a > b)))
  | .geq => some (.bool (decide (a ≥ b)))
  | .shl => shI .shl k a b
  | .shr => shI .shr k a b
  | .and => some (.int k (andI k a b))
  | .or => some (.int k (orI k a b))
  | .xor => some (.int k (xorI k a b))
  | _ => none
def ltS (a b : ByteArray) : Bool := Op.bytesLess a.toList b.toList
def binS (op : BinOp) (a b : ByteArray) : Option Value :=
  match op with
  | .eql => some (.bool (a.toList == b.toList))
  | .neq => some (.bool (!(a.toList == b.toList)))
  | .lss => some (.bool (ltS a b))
  | .leq => some (.bool (ltS a b || (a.toList == b.toList)))
  | .gtr => some (.bool (!(ltS a b || (a.toList == b.toList))))
  | .geq => some (.bool (!ltS a b))
  | .add => if ((a.size + b.size : Nat) : Int) > IntKind.i64.max then none else some (.string (a ++ b))
  | _ => none
def binB (op : BinOp) (a b : Bool) : Option Value :=
  match op with
  | .eql => some (.bool (a == b))
  | .neq => some (.bool (a != b))
  | _ => none
def fastBin (op : BinOp) (isB : Bool) (x y : V) : Option Value :=
  match x, y with
  | .sc (.int k a), .sc (.int k' b) => if k = k' then binI op k a b else shI op k a b
  | .sc (.string a), .sc (.string b) => binS op a b
  | .sc (.bool a), .sc (.bool b) => if isB = true then binB op a b else none
  | _, _ => none
def evBin (P : Program) (ρ : Operand → V) (o : Oper) (op : BinOp) (isB : Bool) (x y : V) : Option (V × List (Nat × Obj)) :=
  match fastBin op isB x y with
  | some v => some (.sc v, [])
  | none => evPure P ρ o
def evUn (P : Program) (ρ : Operand → V) (o : Oper) (op : UnOp) (x : V) : Option (V × List (Nat × Obj)) :=
  match op, x with
  | .not, .sc (.bool b) => some (.sc (.bool (!b)), [])
  | .neg, .sc (.int k n) => some (.sc (.int k (k.wrap (0 - n))), [])
  | _, _ => evPure P ρ o
def evAlloc (P : Program) (nid : Nat) (h : Heap) (t : TypeId) : Option (V × List (Nat × Obj)) :=
  match h nid, zeroT P t with
  | .unborn, some z => some (.ref nid 0 0, [(nid, .live z.cells.size [V.ofV z] true)])
  | _, _ => none
def evBox (nid : Nat) (h : Heap) (x : V) : Option (V × List (Nat × Obj)) :=
  match h nid with
  | .unborn => if x.solid then some (.ref nid 0 0, [(nid, .live x.cells.length [x] true)]) else none
  | _ => none
def evLoad (P : Program) (h : Heap) (t : TypeId) : V → Option V
  | .ref id idx off => match h id with
    | .live _ es _ => (es[idx]?).bind fun e => readC P t e.cells off
    | _ => none
  | .elem e off => readC P t e.cells off
  | _ => none
def evStore (P : Program) (h : Heap) (t : TypeId) (x : V) : V → Option (List (Nat × Obj))
  | .ref id idx off => match h id with
    | .live sz es true => match es[idx]?, sizeT P t with
      | some e, some n => if x.solid = true ∧ x.cells.length = n ∧ 0 < n ∧ off + n ≤ sz then some [(id, .live sz (es.set idx (e.write off x)) true)] else none
      | _, _ => none
    | _ => none
  | _ => none
def shift (n : Nat) : V → Option V
  | .ref id idx off => some (.ref id idx (off + n))
  | .elem e off => some (.elem e (off + n))
  | _ => none
def evFieldAddr (P : Program) (s : TypeId) (f : Nat) (x : V) : Option V :=
  (fieldT P s f).bind fun fd => if sizeT P fd.type = some 0 ∨ sizeT P fd.type = none then none else shift fd.offset x
def evIndexAddr (P : Program) (h : Heap) (t : TypeId) (x : V) (i : V) : Option V :=
  match i with
  | .sc (.int _ n) => match P.underlying t with
    | some (.slice et) => (sizeT P et).bind fun sz => match x with
      | .slice s es => if s = sz ∧ 0 ≤ n then (es[n.toNat]?).map fun e => .elem e 0 else none
      | .own id off len => match h id with
        | .live s es _ => if s = sz ∧ 0 ≤ n ∧ n < len then some (.ref id (off + n.toNat) 0) else none
        | _ => none
      | _ => none
    | some (.array len et) => (sizeT P et).bind fun sz => if 0 ≤ n ∧ n < len then shift (n.toNat * sz) x else none
    | _ => none
  | _ => none
def evBuild (P : Program) (t : TypeId) (parts : List (Nat × V)) : Option V :=
  (zeroT P t).bind fun z => match P.underlying t with
    | some (.struct fs) => if fs.toList.all (fun f => (sizeT P f.type).isSome) = true then (fillV (fun i => (fs[i]?).bind fun f => (sizeT P f.type).map fun n => (f.offset, n)) (V.ofV z).cells parts).map .agg else none
    | some (.array _ e) => (sizeT P e).bind fun n => (fillV (fun i => some (i * n, n)) (V.ofV z).cells parts).map .agg
    | _ => none
def zeros (z : Value) : Nat → List V
  | 0 => []
  | n + 1 => (V.ofV z).cells ++ zeros z n
def evBuildSlice (P : Program) (nid : Nat) (h : Heap) (t : TypeId) (len : Nat) (parts : List (Nat × V)) : Option (V × List (Nat × Obj)) :=
  match h nid, elemT P t with
  | .unborn, some et => match sizeT P et, zeroT P et with
    | some sz, some z => if z.cells.size = sz ∧ 0 < sz ∧ len * sz ≤ 16777216 then
        (fillV (fun i => some (i * sz, sz)) (zeros z len) parts).bind fun cs => if aggT P et = true ∨ (sz = 1 ∧ cs.all V.cellOk = true) then some (.own nid 0 len, [(nid, .live sz (chunks (aggT P et) sz cs len) true)]) else none
      else none
    | _, _ => none
  | _, _ => none
def frz1 (h : Heap) (v : V) : V := (freeze h v).getD v
def addD (d : List (Nat × Obj)) : Option (V × List (Nat × Obj)) → Option (V × List (Nat × Obj))
  | some r => some (r.1, d ++ r.2)
  | none => none
def evBsl (P : Program) (nid : Nat) (h : Heap) (t : TypeId) (len : Nat) (parts : List (Nat × V)) : Option (V × List (Nat × Obj)) :=
  addD (froze h (parts.flatMap fun p => p.2.ids)) (evBuildSlice P nid h t len (parts.map fun p => (p.1, frz1 h p.2)))
def evMakeSlice (P : Program) (nid : Nat) (h : Heap) (t : TypeId) (l c : V) : Option (V × List (Nat × Obj)) :=
  match h nid, l, c, elemT P t with
  | .unborn, .sc (.int .i64 l), .sc (.int .i64 c), some et => match P.info? et, zeroT P et with
    | some i, some z => if z.cells.size = i.size ∧ 0 < i.size ∧ 0 ≤ l ∧ l ≤ c ∧ c ≤ 4294967296 ∧ i.bytes * c.toNat ≤ 281474976710656 then
        some (.own nid 0 l.toNat, [(nid, .live i.size (List.replicate l.toNat (V.ofV z)) true)])
      else none
    | _, _ => none
  | _, _, _, _ => none
def bound (d : Nat) : Option V → Option Nat
  | none => some d
  | some (.sc (.int _ n)) => if 0 ≤ n then some n.toNat else none
  | _ => none
def V.isSl : V → Bool
  | .sc _ => false
  | _ => true
def evSliceI (h : Heap) (sz : Nat) (x : V) (lo hi mx : Option V) : Option (V × List (Nat × Obj)) :=
  (x.len).bind fun n =>
  (bound 0 lo).bind fun l => (bound n hi).bind fun r => (bound r mx).bind fun m =>
  if l ≤ r ∧ r ≤ m ∧ m ≤ n then match mx with
    | none => match x with
      | .slice s es => if s = sz then some (.slice sz ((es.take r).drop l), []) else none
      | .own id off _ => match h id with
        | .live s _ _ => if s = sz then some (.own id (off + l) (r - l), []) else none
        | _ => none
      | .mt => some (.mt, [])
      | .sc (.slice none 0 0) => some (.mt, [])
      | _ => none
    | some _ => if hi.isNone = true then none else if x.isSl = true then
        if l = m then some (.mt, []) else match x with
        | .slice s es => if s = sz then some (.slice sz ((es.take r).drop l), []) else none
        | .own id off len => match h id with
          | .live s es _ => if s = sz ∧ off + len ≤ es.length ∧ es.all V.isF = true then some (.slice sz ((es.drop (off + l)).take (r - l)), froze h [id]) else none
          | _ => none
        | _ => none
      else none
  else none
def evSlice (P : Program) (h : Heap) (t : TypeId) (x : V) (lo hi mx : Option V) : Option (V × List (Nat × Obj)) :=
  (elemT P t).bind fun et => (sizeT P et).bind fun sz => evSliceI h sz x lo hi mx
def news (h : Heap) (sz : Nat) : V → Option (List V)
  | .sc (.string s) => if sz = 1 then some (s.data.toList.map fun b => .sc (.int .u8 b.toNat)) else none
  | x => x.elems h sz
def evAppend (P : Program) (nid : Nat) (h : Heap) (t : TypeId) (s x : V) : Option (V × List (Nat × Obj)) :=
  match h nid, elemT P t with
  | .unborn, some et => match P.info? et, zeroT P et with
    | some i, some z => if z.cells.size = i.size ∧ 0 < i.size then
      (news h i.size x).bind fun ys => match s with
        | .own id off len => match h id with
          | .live sz es mu => if sz = i.size ∧ off + len = es.length ∧ (len + ys.length) * i.bytes ≤ 68719476736 ∧ len + ys.length ≤ 4294967296 ∧ ys.all (fun y => y.cells.length = sz) = true ∧ ys.all V.isF = true
            then some (.own nid 0 (len + ys.length), [(id, .dead), (nid, .live sz (es.drop off ++ ys) mu)]) else none
          | _ => none
        | .mt => if ys.length * i.bytes ≤ 68719476736 ∧ ys.length ≤ 4294967296 ∧ ys.all (fun y => y.cells.length = i.size) = true ∧ ys.all V.isF = true
            then some (.own nid 0 ys.length, [(nid, .live i.size ys true)]) else none
        | .sc (.slice none 0 0) => if ys.length * i.bytes ≤ 68719476736 ∧ ys.length ≤ 4294967296 ∧ ys.all (fun y => y.cells.length = i.size) = true ∧ ys.all V.isF = true
            then some (.own nid 0 ys.length, [(nid, .live i.size ys true)]) else none
        | _ => none
      else none
    | _, _ => none
  | _, _ => none
def noRef : V → V
  | .ref _ _ _ => .any
  | v => v
def evCall (Φ : Specs) (ρ : Operand → V) (h : Heap) (f : FuncId) (args : List Operand) : Option (V × List (Nat × Obj)) :=
  (Φ f).bind fun F => (freezes h ((args.map ρ).map noRef)).bind fun xs => (F xs).map fun r => (r, froze h ((args.map ρ).flatMap V.ids))
def evOp0 (P : Program) (Φ : Specs) (nid : Nat) (ρ : Operand → V) (h : Heap) (o : Oper) : Option (V × List (Nat × Obj)) :=
  match o.op with
  | .move x => some (ρ x, [])
  | .assign x => some (ρ x, [])
  | .pick c a b => match ρ c with
    | .sc (.bool t) => some (if t then ρ a else ρ b, [])
    | _ => none
  | .binOp op t x y _ => evBin P ρ o op (boolT P t) (ρ x) (ρ y)
  | .unOp op _ x => evUn P ρ o op (ρ x)
  | .alloc t => evAlloc P nid h t
  | .box _ x => evBox nid h (ρ x)
  | .load t a => (evLoad P h t (ρ a)).map (·, [])
  | .store t a x => (evStore P h t (ρ x) (ρ a)).map fun d => (.any, d)
  | .fieldAddr s x f => (evFieldAddr P s f (ρ x)).map (·, [])
  | .indexAddr t x i => (evIndexAddr P h t (ρ x) (ρ i)).map (·, [])
  | .field s x f => match ρ x with
    | .agg cs => (fieldT P s f).bind fun fd => (readC P fd.type cs fd.offset).map (·, [])
    | _ => none
  | .extract x i => match ρ x with
    | .tup vs => (vs[i]?).map (·, [])
    | _ => none
  | .build t parts => (evBuild P t (parts.toList.map fun p => (p.1, ρ p.2))).map (·, [])
  | .buildSlice t len parts => evBsl P nid h t len (parts.toList.map fun p => (p.1, ρ p.2))
  | .makeSlice t l c => evMakeSlice P nid h t (ρ l) (ρ c)
  | .slice t x lo hi mx => match ρ x with
    | .sc (.string _) => evPure P ρ o
    | v => evSlice P h t v (lo.map ρ) (hi.map ρ) (mx.map ρ)
  | .makeFunc fn first captured => some (.fn fn (first.toList.map ρ) (captured.toList.map ρ), [])
  | .nilCheck x => match ρ x with
    | .ref id idx off => some (.ref id idx off, [])
    | .elem e off => some (.elem e off, [])
    | _ => evPure P ρ o
  | .range t x => match ρ x with
    | .sc (.string s) => if strT P t = true then match h nid with
        | .unborn => some (.ref nid 0 0, [(nid, .ext (.iter s 0))])
        | _ => none
      else none
    | _ => none
  | .next it str => match ρ it with
    | .ref id 0 0 => match h id with
      | .ext (.iter s pos) => if str = true then
          if pos < s.size then some (.tup [.sc (.bool true), .sc (.int .i64 pos), .sc (.int .i32 (Utf8.decode s pos).1)], [(id, .ext (.iter s (pos + (Utf8.decode s pos).2)))])
          else some (.tup [.sc (.bool false)], [])
        else none
      | _ => none
    | _ => none
  | .call c => match c.callee with
    | .builtin .len => match c.args.toList, c.argTypes.toList with
      | [x], [t] => match ρ x with
        | .sc _ => evPure P ρ o
        | y => match P.underlying t with
          | some (.slice _) => (y.len).map fun (n : Nat) => (V.sc (.int .i64 (n : Int)), [])
          | _ => none
      | _, _ => none
    | .builtin .append => match c.args.toList, c.argTypes.toList with
      | [s, x], [t, t'] => if t = t' ∨ strT P t' = true then evAppend P nid h t (ρ s) (ρ x) else none
      | _, _ => none
    | .builtin _ => evPure P ρ o
    | .value (.func f) => evCall Φ ρ h f c.args.toList
    | _ => none
  | _ => evPure P ρ o
def need0 (nid : Nat) (ρ : Operand → V) (o : Oper) : List Nat :=
  match o.op with
  | .alloc _ => [nid]
  | .box _ _ => [nid]
  | .buildSlice _ _ ps => nid :: (ps.toList.map fun p => (p.1, ρ p.2)).flatMap fun p => p.2.ids
  | .makeSlice _ _ _ => [nid]
  | .range _ _ => [nid]
  | .next it _ => match ρ it with
    | .ref id _ _ => [id]
    | _ => []
  | .load _ a => match ρ a with
    | .ref id _ _ => [id]
    | _ => []
  | .store _ a _ => match ρ a with
    | .ref id _ _ => [id]
    | _ => []
  | .indexAddr _ x _ => (ρ x).ids
  | .slice _ x _ _ _ => (ρ x).ids
  | .call c => match c.callee with
    | .builtin .append => nid :: c.args.toList.flatMap fun x => (ρ x).ids
    | .value _ => c.args.toList.flatMap fun x => (ρ x).ids
    | _ => []
  | _ => []
inductive CK where
  | b
  | i (k : IntKind)
  | s
deriving DecidableEq
def fieldKinds (P : Program) (ck : TypeId → Option (List CK)) : Nat → List Field → Option (List CK)
  | _, [] => some []
  | o, fd :: fs => match ck fd.type, fieldKinds P ck (o + P.cellsOf fd.type) fs with
    | some ks, some ls => if fd.offset = o ∧ fd.name ≠ "_" ∧ sizeT P fd.type = some ks.length ∧ 0 < ks.length then some (ks ++ ls) else none
    | _, _ => none
def cellKinds (P : Program) : Nat → TypeId → Option (List CK)
  | 0, _ => none
  | f + 1, t => match P.underlying t with
    | some .bool => some [.b]
    | some (.int k) => some [.i k]
    | some .string => some [.s]
    | some (.struct fs) => if P.stoodInHeld t = false then fieldKinds P (cellKinds P f) 0 fs.toList else none
    | _ => none
def eqC : CK → Value → Value → Option Bool
  | .b, .bool a, .bool b => some (a == b)
  | .i k, .int k1 a, .int k2 b => if k1 = k ∧ k2 = k then some (a == b) else none
  | .s, .string a, .string b => some (a == b)
  | _, _, _ => none
def andO : Option Bool → Option Bool → Option Bool
  | some a, some b => some (a && b)
  | _, _ => none
def eqK : List CK → List Value → List Value → Option Bool
  | [], [], [] => some true
  | c :: ks, x :: xs, y :: ys => andO (eqC c x y) (eqK ks xs ys)
  | _, _, _ => none
def okKey (ag : Bool) : Value → Bool
  | .agg _ => ag
  | v => !ag && v.oneCell'
def keyFind (ag : Bool) (ks : List CK) (k : List Value) : List Value → Nat → Option (Option Nat)
  | [], _ => some none
  | x :: xs, i => if okKey ag x = true then match eqK ks k x.cells.toList with
      | some true => some (some i)
      | some false => keyFind ag ks k xs (i + 1)
      | none => none
    else none
def kvOf (ag : Bool) : V → Option Value
  | .sc v => if okKey ag v = true then some v else none
  | .agg cs => if ag = true then (concL cs).map fun l => .agg l.toArray else none
  | _ => none
def mapKV (P : Program) (t : TypeId) : Option (TypeId × TypeId × List CK) := match P.underlying t with
  | some (.map kt et) => (cellKinds P 8 kt).map fun ks => (kt, et, ks)
  | _ => none
def idxOf (P : Program) (kt : TypeId) (ks : List CK) (kv : Value) (keys : List Value) : Option (Option Nat) := if kv.cells.size = ks.length then keyFind (aggT P kt) ks kv.cells.toList keys 0 else none
def lookV (b : Bool) (v : V) (ok : Bool) : V := if b then .tup [v, .sc (.bool ok)] else v
def mapOf (H : Heap) : V → Option (List Value × List V)
  | .mapr id => match H id with
    | .ext (.map keys vs) => some (keys, vs)
    | _ => none
  | .mapf keys vs => some (keys, vs)
  | _ => none
def mapLook (P : Program) (H : Heap) (t : TypeId) (m k : V) (b : Bool) : Option (V × List (Nat × Obj)) := match mapKV P t with
  | some (kt, et, ks) => match mapOf H m, kvOf (aggT P kt) k with
    | some (keys, vs), some kv => match idxOf P kt ks kv keys with
      | some (some i) => (vs[i]?).map fun v => (lookV b v true, [])
      | some none => (zeroT P et).map fun z => (lookV b (V.ofV z) false, [])
      | none => none
    | _, _ => none
  | none => none
def mapPut (P : Program) (H : Heap) (t : TypeId) (m k v : V) : Option (V × List (Nat × Obj)) := match mapKV P t with
  | some (kt, _, ks) => match m with
    | .mapr id => match H id, kvOf (aggT P kt) k with
      | .ext (.map keys vs), some kv => match idxOf P kt ks kv keys with
        | some (some i) => some (.any, [(id, .ext (.map (keys.set i kv) (vs.set i v)))])
        | some none => some (.any, [(id, .ext (.map (keys ++ [kv]) (vs ++ [v])))])
        | none => none
      | _, _ => none
    | _ => none
  | none => none
def mapDel (P : Program) (H : Heap) (t : TypeId) (m k : V) : Option (V × List (Nat × Obj)) := match mapKV P t with
  | some (kt, _, ks) => match m with
    | .mapr id => match H id, kvOf (aggT P kt) k with
      | .ext (.map keys vs), some kv => match idxOf P kt ks kv keys with
        | some (some i) => some (.sc (.tuple #[]), [(id, .ext (.map (keys.eraseIdx i) (vs.eraseIdx i)))])
        | some none => some (.sc (.tuple #[]), [(id, .ext (.map keys vs))])
        | none => none
      | _, _ => none
    | _ => none
  | none => none
def mapMake (P : Program) (n : Nat) (H : Heap) (t : TypeId) (r : Option V) : Option (V × List (Nat × Obj)) := match mapKV P t with
  | some _ => match r with
    | none => match H n with
      | .unborn => some (.mapr n, [(n, .ext (.map [] []))])
      | _ => none
    | some (.sc (.int _ _)) => match H n with
      | .unborn => some (.mapr n, [(n, .ext (.map [] []))])
      | _ => none
    | _ => none
  | none => none
def mapLen (P : Program) (H : Heap) (t : TypeId) (m : V) : Option (V × List (Nat × Obj)) := match P.underlying t with
  | some (.map _ _) => match mapOf H m with
    | some (keys, _) => some (.sc (.int .i64 (keys.length : Int)), [])
    | none => none
  | _ => none
def mapEv (P : Program) (n : Nat) (ρ : Operand → V) (H : Heap) (o : Oper) : Option (V × List (Nat × Obj)) := match o.op with
  | .makeMap t r => mapMake P n H t (r.map ρ)
  | .mapUpdate t m k v => mapPut P H t (ρ m) (ρ k) (ρ v)
  | .lookup t m k b => mapLook P H t (ρ m) (ρ k) b
  | .call c => match c.callee, c.args.toList, c.argTypes.toList with
    | .builtin .len, [x], [t] => mapLen P H t (ρ x)
    | .builtin .delete, [x, y], [t, _] => mapDel P H t (ρ x) (ρ y)
    | _, _, _ => none
  | _ => none
def idM : V → List Nat
  | .mapr id => [id]
  | _ => []
def mapNeed (nid : Nat) (ρ : Operand → V) (o : Oper) : List Nat := match o.op with
  | .makeMap _ _ => [nid]
  | .mapUpdate _ m _ _ => idM (ρ m)
  | .lookup _ m _ _ => idM (ρ m)
  | .call c => match c.callee, c.args.toList with
    | .builtin .len, [x] => idM (ρ x)
    | .builtin .delete, [x, _] => idM (ρ x)
    | _, _ => []
  | _ => []
def need (nid : Nat) (ρ : Operand → V) (o : Oper) : List Nat := mapNeed nid ρ o ++ need0 nid ρ o
def orE {α : Type} : Option α → Option α → Option α
  | some a, _ => some a
  | none, b => b
def evOp (P : Program) (Φ : Specs) (nid : Nat) (ρ : Operand → V) (h : Heap) (o : Oper) : Option (V × List (Nat × Obj)) :=
  orE (evOp0 P Φ nid ρ h o) (mapEv P nid ρ h o)
def only (ids : List Nat) (h : Heap) : Heap := fun x => if ids.contains x then h x else .dead
def ev (P : Program) (Φ : Specs) (nid : Nat) (ρ : Operand → V) (h : Heap) (o : Oper) : Option (V × List (Nat × Obj)) :=
  evOp P Φ nid ρ (only (need nid ρ o) h) o
def putH (h : Heap) : List (Nat × Obj) → Heap
  | [] => h
  | (id, x) :: rest => putH (fun y => if y = id then x else h y) rest
end Go.Idl
namespace Go.Idl
set_option linter.all false
open Go.RowKit
variable [Laid]
structure Ctx where
  I0 : Imm
  w0 : World
  /-- Slots of the frames that wait. -/
  keep : List ((Nat → V) × Array Value)
  laid : Laid.ok w0
  /-- The round of a range over a function in which the frame stands. -/
  rnd : Option Nat
def Quiet (m : Nat × Nat) (n : Nat) : Prop := n ≤ m.1 ∨ m.2 = 0
theorem Quiet.zero (n : Nat) : Quiet (0, 0) n := .inr rfl
theorem Quiet.frozen {m : Nat × Nat} {w : World} {g : Nat} {c : Array Value} {t : TypeId} (h : Quiet m c.size) (hg : w.heap[g]? = some (.cells c t m)) {j : Nat} (hj : j < c.size) : w.frozen? ⟨g, j, none⟩ = false := by
  obtain ⟨lo, hi⟩ := m
  simp only [World.frozen?, hg, Bool.and_eq_false_iff, decide_eq_false_iff_not]
  rcases h with h | h
  · left; dsimp only at h ⊢; omega
  · right; dsimp only at h ⊢; omega
structure ObjAt (γ : Places) (I : Imm) (w : World) (id sz : Nat) (es : List V) (mu : Bool) (p : Place) (c : Array Value) (t : TypeId × Nat × Nat) : Prop where
  place : γ id = some p
  size : p.sz = sz
  blk : w.heap[p.blk]? = some (.cells c t.1 t.2)
  len : ∀ e, e ∈ es → e.cells.length = sz
  cell : ∀ (i j : Nat) (e x : V), es[i]? = some e → e.cells[j]? = some x → ∃ u, c[p.off + i * sz + j]? = some u ∧ Rep I w γ x u
  mutb : mu = true → ∀ y, ¬ I p.blk y
  fix : mu = false → (∀ y, I p.blk y → y < p.off + es.length * sz) ∧ (∀ i j, i < es.length → j < sz → I p.blk (p.off + i * sz + j)) ∧ es.all V.isF = true
  quiet : Quiet t.2 c.size
def ObjRep (γ : Places) (I : Imm) (w : World) (id sz : Nat) (es : List V) (mu : Bool) : Prop :=
  (es = [] ∧ γ id = none) ∨ ∃ p c t, ObjAt γ I w id sz es mu p c t
def Stamped (ents : Array MapEntry) (clock : Nat) : Prop := (∀ e, e ∈ ents → e.born < clock) ∧ (ents.toList.map (·.born)).Nodup
def ExtRep (γ : Places) (I : Imm) (w : World) : Ext → Go.Obj → Prop
  | .iter s pos, o => o = .stringIter s pos
  | .raw o', o => o = o'
  | .map ks vs, o => ∃ (ents : Array MapEntry) (clock : Nat), o = .map ents clock ∧ ks.length = vs.length ∧ ents.toList.map (·.key) = ks ∧ Stamped ents clock ∧
      ∀ (j : Nat) (x : V) (e : MapEntry), vs[j]? = some x → ents[j]? = some e → Rep I w γ x e.val
  | .miter ks vs left last, o => ∃ (g since : Nat) (seen : Array Nat) (c0 : Nat) (ents : Array MapEntry) (clock : Nat), o = .mapIter (some g) since seen c0 ∧ I g 0 ∧ w.heap[g]? = some (.map ents clock) ∧
      ks.length = vs.length ∧ ents.toList.map (·.key) = ks ∧ (ents.toList.map (·.born)).Nodup ∧ (∀ e, e ∈ ents → e.born < since) ∧ since ≤ c0 ∧ since ≤ clock ∧
      (∀ (j : Nat) (e : MapEntry), ents[j]? = some e → (j ∈ left ↔ seen.contains e.born = false)) ∧
      (∀ (j : Nat) (x : V) (e : MapEntry), vs[j]? = some x → ents[j]? = some e → Rep I w noPlaces x e.val) ∧
      ∀ j, last = some j → ∃ (e : MapEntry) (seen' : Array Nat), ents[j]? = some e ∧ seen = seen'.push e.born ∧ c0 = clock
def ExtAt (γ : Places) (I : Imm) (w : World) (id : Nat) (x : Ext) (p : Place) : Prop :=
  γ id = some p ∧ (p.off = 0 ∧ ∀ y, ¬ I p.blk y) ∧ ∃ o, w.heap[p.blk]? = some o ∧ ExtRep γ I w x o
theorem ExtAt.mono {γ γ' : Places} {I I' : Imm} {w w' : World} {id : Nat} {x : Ext} {p : Place} (h : ExtAt γ I w id x p)
    (hp : Pres I w w') (hI : ∀ g x, I g x → I' g x) (hγ : ∀ id p, γ id = some p → γ' id = some p) (hb : w'.heap[p.blk]? = w.heap[p.blk]?)
    (hI' : ∀ y, I' p.blk y → I p.blk y) : ExtAt γ' I' w' id x p := by
  obtain ⟨h1, h2, o, h3, h4⟩ := h
  refine ⟨hγ _ _ h1, ⟨h2.1, fun y hy => h2.2 y (hI' y hy)⟩, o, hb.trans h3, ?_⟩
  cases x with
  | iter s pos => exact h4
  | raw o' => exact h4
  | map ks vs =>
    obtain ⟨ents, clock, e1, e2, e3, e4, e5⟩ := h4
    exact ⟨ents, clock, e1, e2, e3, e4, fun j x e hx he => (e5 j x e hx he).mono hp hI hγ⟩
  | miter ks vs left last =>
    obtain ⟨g, since, seen, c0, ents, clock, e1, e2, e3, e4, e5, e6, e7, e8, e9, e10, e11, e12⟩ := h4
    exact ⟨g, since, seen, c0, ents, clock, e1, hI _ _ e2, hp.raw _ _ _ e2 e3, e4, e5, e6, e7, e8, e9, e10, fun j x e hx he => (e11 j x e hx he).mono hp hI fun _ _ h => h, e12⟩
def Obj.isLive : Obj → Prop
  | .live _ _ _ => True
  | .ext _ => True
  | _ => False
structure Sim (C : Ctx) (γ : Places) (I : Imm) (τ : Nat → V) (H : Heap) (tm : Array Value) (w : World) : Prop where
  below : Bel C.w0.heap.size C.w0 w
  imm0 : ∀ g x, C.I0 g x → I g x
  immB : ∀ g x, I g x → C.I0 g x ∨ C.w0.heap.size ≤ g
  immS : ∀ g x, I g x → g < w.heap.size
  tmp : ∀ t, Rep I w γ (τ t) (tm.getD t undef)
  kept : ∀ fr, fr ∈ C.keep → ∀ t, Rep I w γ (fr.1 t) (fr.2.getD t undef)
  dom : ∀ id p, γ id = some p → H id ≠ .unborn ∧ C.w0.heap.size ≤ p.blk ∧ p.blk < w.heap.size
  obj : ∀ id sz es mu, H id = .live sz es mu → ObjRep γ I w id sz es mu
  ext : ∀ id x, H id = .ext x → ∃ p, ExtAt γ I w id x p
  inj : ∀ id id' p p', (H id).isLive → (H id').isLive → γ id = some p → γ id' = some p' → p.blk = p'.blk → id = id'
variable {C : Ctx} {γ : Places} {I : Imm} {τ : Nat → V} {H : Heap} {tm : Array Value} {w : World}
theorem Sim.opd (h : Sim C γ I τ H tm w) (ds : List Deferred) (x : Operand) : Rep I w γ (Idl.opd τ x) ((⟨tm, ds⟩ : Act).eval x) := by
  cases x with
  | tmp t => exact h.tmp t
  | const v => exact Rep.ofV v
  | global g => exact .sc _ _
  | func f => exact .sc _ _
theorem Rep.drawn {x : V} {v : Value} (h : Rep I w γ x v) (n : Nat) : Rep I { w with drawn := n } γ x v :=
  h.mono (w' := { w with drawn := n }) ⟨fun _ _ _ => rfl, fun _ c _ _ h => ⟨c, h, rfl⟩, fun _ _ _ _ h => h⟩ (fun _ _ h => h) fun _ _ h => h
theorem Sim.drawn (h : Sim C γ I τ H tm w) (n : Nat) (hn : w.drawn ≤ n := by exact Nat.le_succ _) : Sim C γ I τ H tm { w with drawn := n } where
  below := ⟨h.below.os, h.below.tape, h.below.output, h.below.size, h.below.block, trivial⟩
  imm0 := h.imm0
  immB := h.immB
  immS := h.immS
  tmp := fun t => (h.tmp t).drawn n
  kept := fun fr hf t => (h.kept fr hf t).drawn n
  dom := h.dom
  obj := fun id sz es mu hl => by
    rcases h.obj id sz es mu hl with h0 | ⟨p, c, t, ho⟩
    · exact .inl h0
    · exact .inr ⟨p, c, t, ho.place, ho.size, ho.blk, ho.len, fun i j e x he hx => (ho.cell i j e x he hx).imp fun u hu => ⟨hu.1, hu.2.drawn n⟩, ho.mutb, ho.fix, ho.quiet⟩
  ext := fun id x hx => (h.ext id x hx).imp fun p hp => hp.mono (w' := { w with drawn := n }) ⟨fun _ _ _ => rfl, fun _ c _ _ h => ⟨c, h, rfl⟩, fun _ _ _ _ h => h⟩ (fun _ _ h => h) (fun _ _ h => h) rfl fun _ h => h
  inj := h.inj
def updT (τ : Nat → V) (d : Nat) (v : V) : Nat → V := fun t => if t = d then v else τ t
theorem Sim.put (h : Sim C γ I τ H tm w) {v : V} {u : Value} (hr : Rep I w γ v u) {d : Nat} (hd : d < tm.size) :
    Sim C γ I (updT τ d v) H (tm.setIfInBounds d u) w where
  below := h.below
  imm0 := h.imm0
  immB := h.immB
  immS := h.immS
  kept := h.kept
  tmp := fun t => by
    unfold updT
    by_cases e : t = d
    · subst e
      simp [hd]
      exact hr
    · have := h.tmp t
      simp [e, Array.getElem?_setIfInBounds_ne (fun h => e h.symm)] at this ⊢
      exact this
  dom := h.dom
  obj := h.obj
  ext := h.ext
  inj := h.inj
theorem Sim.forget (h : Sim C γ I τ H tm w) {τ' : Nat → V} (hτ : ∀ t, τ' t = .any ∨ τ' t = τ t) : Sim C γ I τ' H tm w where
  below := h.below
  imm0 := h.imm0
  immB := h.immB
  immS := h.immS
  kept := h.kept
  tmp := fun t => by
    rcases hτ t with e | e <;> rw [e]
    · exact .any _ _
    · exact h.tmp t
  dom := h.dom
  obj := h.obj
  ext := h.ext
  inj := h.inj
theorem ObjAt.mono {id sz : Nat} {es : List V} {mu : Bool} {p : Place} {c : Array Value} {t : TypeId × Nat × Nat} (h : ObjAt γ I w id sz es mu p c t) {w' : World} {I' : Imm} {γ' : Places}
    (hp : Pres I w w') (hI : ∀ g x, I g x → I' g x) (hγ : ∀ id p, γ id = some p → γ' id = some p) (hb : w'.heap[p.blk]? = w.heap[p.blk]?)
    (hI' : ∀ y, I' p.blk y → I p.blk y) : ObjAt γ' I' w' id sz es mu p c t where
  place := hγ _ _ h.place
  size := h.size
  blk := hb.trans h.blk
  len := h.len
  cell := fun i j e x he hx => (h.cell i j e x he hx).imp fun u hu => ⟨hu.1, hu.2.mono hp hI hγ⟩
  mutb := fun hm y hy => h.mutb hm y (hI' y hy)
  fix := fun hm => ⟨fun y hy => (h.fix hm).1 y (hI' y hy), fun i j hi hj => hI _ _ ((h.fix hm).2.1 i j hi hj), (h.fix hm).2.2⟩
  quiet := h.quiet
theorem Sim.grow (h : Sim C γ I τ H tm w) {w' : World} (hb : Bel w.heap.size w w') {I' : Imm} (hI : ∀ g x, I g x → I' g x)
    (hI' : ∀ g x, I' g x → I g x ∨ (w.heap.size ≤ g ∧ g < w'.heap.size)) : Sim C γ I' τ H tm w' := by
  have hsz := h.below.size
  have hp : Pres I w w' := ⟨fun g x hx => hb.cell (p := ⟨g, x, none⟩) (h.immS g x hx), fun g c t m hg => by
    refine ⟨c, ?_, rfl⟩
    rw [hb.block g ?_]
    · exact hg
    · rcases Nat.lt_or_ge g w.heap.size with hlt | hge
      · exact hlt
      · rw [Array.getElem?_eq_none hge] at hg; simp at hg, fun g es n hx hg => (hb.block g (h.immS g 0 hx)).trans hg⟩
  exact {
    below := h.below.trans (hb.mono hsz)
    imm0 := fun g x hx => hI _ _ (h.imm0 g x hx)
    immB := fun g x hx => (hI' g x hx).elim (h.immB g x) fun hg => .inr (Nat.le_trans hsz hg.1)
    immS := fun g x hx => (hI' g x hx).elim (fun hg => Nat.lt_of_lt_of_le (h.immS g x hg) hb.size) fun hg => hg.2
    tmp := fun t => (h.tmp t).mono hp hI fun _ _ h => h
    kept := fun fr hf t => (h.kept fr hf t).mono hp hI fun _ _ h => h
    dom := fun id p hd => ⟨(h.dom id p hd).1, (h.dom id p hd).2.1, Nat.lt_of_lt_of_le (h.dom id p hd).2.2 hb.size⟩
    obj := fun id sz es mu hl => by
      rcases h.obj id sz es mu hl with h0 | ⟨p, c, t, ho⟩
      · exact .inl h0
      · have hlt := (h.dom id p ho.place).2.2
        exact .inr ⟨p, c, t, ho.mono hp hI (fun _ _ h => h) (hb.block _ hlt) fun y hy => (hI' _ _ hy).elim (fun h => h) fun hg => absurd hlt (by omega)⟩
    ext := fun id x hx => (h.ext id x hx).imp fun p ho => by
      have hlt := (h.dom id p ho.1).2.2
      exact ho.mono hp hI (fun _ _ h => h) (hb.block _ hlt) fun y hy => (hI' _ _ hy).elim (fun h => h) fun hg => absurd hlt (by omega)
    inj := h.inj }
def updH (H : Heap) (id : Nat) (x : Obj) : Heap := fun y => if y = id then x else H y
def updP (γ : Places) (id : Nat) (p : Place) : Places := fun y => if y = id then some p else γ y
theorem updH_same (H : Heap) (id : Nat) (x : Obj) : updH H id x id = x := by simp [updH]
theorem updH_ne {H : Heap} {id y : Nat} {x : Obj} (h : y ≠ id) : updH H id x y = H y := by simp [updH, h]
theorem Sim.born (h : Sim C γ I τ H tm w) {nid sz : Nat} {es : List V} {c : Array Value} {t : TypeId} {m : Nat × Nat} (hn : H nid = .unborn)
    (hlen : ∀ e, e ∈ es → e.cells.length = sz)
    (hcell : ∀ (i j : Nat) (e x : V), es[i]? = some e → e.cells[j]? = some x → ∃ u, c[i * sz + j]? = some u ∧ Rep I w γ x u) (hq : Quiet m c.size := by exact Quiet.zero _) :
    Sim C (updP γ nid ⟨w.heap.size, 0, sz⟩) I τ (updH H nid (.live sz es true)) tm (w.alloc (.cells c t m)) ∧
      (w.alloc (.cells c t m)).heap[w.heap.size]? = some (.cells c t m) := by
  have hγn : γ nid = none := by
    rcases hg : γ nid with _ | p
    · rfl
    · exact absurd hn (h.dom nid p hg).1
  have hγ : ∀ id p, γ id = some p → updP γ nid ⟨w.heap.size, 0, sz⟩ id = some p := fun id p hp => by
    unfold updP
    by_cases e : id = nid
    · subst e; rw [hγn] at hp; cases hp
    · simp [e, hp]
  have hb : Bel w.heap.size w (w.alloc (.cells c t m)) := (Bel.refl _ _).alloc (Nat.le_refl _) _
  have hnew : (w.alloc (.cells c t m)).heap[w.heap.size]? = some (.cells c t m) := by
    show (w.heap.push _)[w.heap.size]? = _
    simp
  have hg := h.grow hb (I' := I) (fun _ _ h => h) fun _ _ h => .inl h
  have hp : Pres I w (w.alloc (.cells c t m)) := ⟨fun g x hx => hb.cell (p := ⟨g, x, none⟩) (h.immS g x hx), fun g c t m hg => by
    refine ⟨c, ?_, rfl⟩
    rw [hb.block g ?_]
    · exact hg
    · rcases Nat.lt_or_ge g w.heap.size with hlt | hge
      · exact hlt
      · rw [Array.getElem?_eq_none hge] at hg; simp at hg, fun g es n hx hg => (hb.block g (h.immS g 0 hx)).trans hg⟩
  have hsize : (w.alloc (.cells c t m)).heap.size = w.heap.size + 1 := by
    show (w.heap.push _).size = _
    simp
  refine ⟨{
    below := hg.below
    imm0 := hg.imm0
    immB := hg.immB
    immS := hg.immS
    tmp := fun t => (h.tmp t).mono hp (fun _ _ h => h) hγ
    kept := fun fr hf t => (h.kept fr hf t).mono hp (fun _ _ h => h) hγ
    dom := fun id p hd => by
      unfold updP at hd
      by_cases e : id = nid
      · subst e
        simp at hd
        subst hd
        refine ⟨by simp [updH], h.below.size, ?_⟩
        show w.heap.size < _
        omega
      · simp [e] at hd
        have := h.dom id p hd
        refine ⟨by simp [updH, e]; exact this.1, this.2.1, ?_⟩
        omega
    obj := fun id sz' es' mu hl => by
      unfold updH at hl
      by_cases e : id = nid
      · subst e
        simp at hl
        obtain ⟨rfl, rfl, rfl⟩ := hl
        refine .inr ⟨⟨w.heap.size, 0, sz⟩, c, (t, m), by simp [updP], rfl, hnew, hlen, fun i j e x he hx => ?_, fun _ y hy => ?_, by simp, hq⟩
        · obtain ⟨u, hu, hr⟩ := hcell i j e x he hx
          exact ⟨u, by simpa using hu, hr.mono hp (fun _ _ h => h) hγ⟩
        · have := h.immS _ _ hy
          simp at this
      · simp [e] at hl
        rcases h.obj id sz' es' mu hl with h0 | ⟨p, c', t', ho⟩
        · exact .inl ⟨h0.1, by simp [updP, e, h0.2]⟩
        · exact .inr ⟨p, c', t', ho.mono hp (fun _ _ h => h) hγ (hb.block _ (h.dom id p ho.place).2.2) fun _ h => h⟩
    ext := fun id x hx => by
      unfold updH at hx
      by_cases e : id = nid
      · simp [e] at hx
      · simp [e] at hx
        exact (h.ext id x hx).imp fun p ho => ho.mono hp (fun _ _ h => h) hγ (hb.block _ (h.dom id p ho.1).2.2) fun _ h => h
    inj := fun id id' p p' h1 h2 hp1 hp2 hblk => by
      unfold updP at hp1 hp2
      unfold updH at h1 h2
      by_cases e : id = nid <;> by_cases e' : id' = nid
      · rw [e, e']
      · subst e
        simp at hp1
        subst hp1
        simp [e'] at hp2
        have := (h.dom id' p' hp2).2.2
        simp at hblk
        omega
      · subst e'
        simp at hp2
        subst hp2
        simp [e] at hp1
        have := (h.dom id p hp1).2.2
        simp at hblk
        omega
      · simp [e] at hp1 h1
        simp [e'] at hp2 h2
        exact h.inj id id' p p' h1 h2 hp1 hp2 hblk }, hnew⟩
end Go.Idl
namespace Go.Idl
set_option linter.all false
open Go.RowKit
variable [Laid]
variable {C : Ctx} {γ : Places} {I : Imm} {τ : Nat → V} {H : Heap} {tm : Array Value} {w : World}
def Idle (γ : Places) (H : Heap) (g : Nat) : Prop := ∀ id p, (H id).isLive → γ id = some p → p.blk ≠ g
theorem Sim.kill (h : Sim C γ I τ H tm w) (id : Nat) : Sim C γ I τ (updH H id .dead) tm w where
  below := h.below
  imm0 := h.imm0
  immB := h.immB
  immS := h.immS
  tmp := h.tmp
  kept := h.kept
  dom := fun x p hp => by
    have := h.dom x p hp
    refine ⟨?_, this.2⟩
    unfold updH
    by_cases e : x = id
    · simp [e]
    · simp [e]; exact this.1
  obj := fun x sz es mu hl => by
    unfold updH at hl
    by_cases e : x = id
    · simp [e] at hl
    · simp [e] at hl; exact h.obj x sz es mu hl
  ext := fun x y hx => by
    unfold updH at hx
    by_cases e : x = id
    · simp [e] at hx
    · simp [e] at hx; exact h.ext x y hx
  inj := fun x y p p' h1 h2 hp hp' hblk => by
    unfold updH at h1 h2
    by_cases e : x = id
    · simp [e, Obj.isLive] at h1
    · by_cases e' : y = id
      · simp [e', Obj.isLive] at h2
      · simp [e] at h1; simp [e'] at h2; exact h.inj x y p p' h1 h2 hp hp' hblk
theorem Sim.idle (h : Sim C γ I τ H tm w) {id : Nat} {p : Place} (hl : (H id).isLive) (hp : γ id = some p) : Idle γ (updH H id .dead) p.blk := by
  intro x q hx hq hblk
  unfold updH at hx
  by_cases e : x = id
  · simp [e, Obj.isLive] at hx
  · simp [e] at hx
    exact e (h.inj x id q p hx hl hq hp hblk)
theorem Sim.touch (h : Sim C γ I τ H tm w) {g : Nat} {c c' : Array Value} {t : TypeId} {m : Nat × Nat} {w' : World} (hB : C.w0.heap.size ≤ g) (hi : Idle γ H g)
    (hg : w.heap[g]? = some (.cells c t m)) (hg' : w'.heap[g]? = some (.cells c' t m)) (hsz : c'.size = c.size)
    (hI : ∀ y, I g y → c'[y]? = c[y]?) (hfar : ∀ k, k ≠ g → w'.heap[k]? = w.heap[k]?) (hs : w'.heap.size = w.heap.size)
    (hos : w'.os = w.os) (htape : w'.tape = w.tape) (hout : w'.output = w.output) (hdr : w'.drawn = w.drawn) : Sim C γ I τ H tm w' := by
  have hp : Pres I w w' := ⟨fun g' x hx => by
      by_cases e : g' = g
      · subst e
        simp [World.cell?, hg, hg', hI x hx]
      · simp [World.cell?, hfar g' e], fun g' c0 t0 m0 h0 => by
      by_cases e : g' = g
      · subst e
        rw [hg] at h0
        cases h0
        exact ⟨c', hg', hsz⟩
      · exact ⟨c0, (hfar g' e).trans h0, rfl⟩, fun g' es n hx h0 => by
      by_cases e : g' = g
      · subst e; rw [hg] at h0; cases h0
      · exact (hfar g' e).trans h0⟩
  exact {
    below := h.below.trans ⟨hos, htape, hout, by omega, fun k hk => hfar k (by omega), trivial⟩
    imm0 := h.imm0
    immB := h.immB
    immS := fun g x hx => by rw [hs]; exact h.immS g x hx
    tmp := fun t => (h.tmp t).mono hp (fun _ _ h => h) fun _ _ h => h
    kept := fun fr hf t => (h.kept fr hf t).mono hp (fun _ _ h => h) fun _ _ h => h
    dom := fun id p hd => by rw [hs]; exact h.dom id p hd
    obj := fun id sz es mu hl => by
      rcases h.obj id sz es mu hl with h0 | ⟨p, c0, t0, ho⟩
      · exact .inl h0
      · exact .inr ⟨p, c0, t0, ho.mono hp (fun _ _ h => h) (fun _ _ h => h) (hfar _ (hi id p (by rw [hl]; trivial) ho.place)) fun _ h => h⟩
    ext := fun id x hx => (h.ext id x hx).imp fun p ho => ho.mono hp (fun _ _ h => h) (fun _ _ h => h) (hfar _ (hi id p (by rw [hx]; trivial) ho.1)) fun _ h => h
    inj := h.inj }
theorem Sim.place (h : Sim C γ I τ H tm w) {nid : Nat} (hn : H nid = .unborn) {p : Place} (hB : C.w0.heap.size ≤ p.blk) (hlt : p.blk < w.heap.size) :
    Sim C (updP γ nid p) I τ (updH H nid .dead) tm w := by
  have hγn : γ nid = none := by
    rcases hg : γ nid with _ | p
    · rfl
    · exact absurd hn (h.dom nid p hg).1
  have hγ : ∀ id q, γ id = some q → updP γ nid p id = some q := fun id q hp => by
    unfold updP
    by_cases e : id = nid
    · subst e; rw [hγn] at hp; cases hp
    · simp [e, hp]
  have hr := Pres.refl I w
  exact {
    below := h.below
    imm0 := h.imm0
    immB := h.immB
    immS := h.immS
    tmp := fun t => (h.tmp t).mono hr (fun _ _ h => h) hγ
    kept := fun fr hf t => (h.kept fr hf t).mono hr (fun _ _ h => h) hγ
    dom := fun id q hd => by
      unfold updP at hd
      by_cases e : id = nid
      · subst e
        simp at hd
        subst hd
        exact ⟨by simp [updH], hB, hlt⟩
      · simp [e] at hd
        have := h.dom id q hd
        exact ⟨by simp [updH, e]; exact this.1, this.2⟩
    obj := fun id sz es mu hl => by
      unfold updH at hl
      by_cases e : id = nid
      · simp [e] at hl
      · simp [e] at hl
        rcases h.obj id sz es mu hl with h0 | ⟨q, c, t, ho⟩
        · exact .inl ⟨h0.1, by simp [updP, e, h0.2]⟩
        · exact .inr ⟨q, c, t, ho.mono hr (fun _ _ h => h) hγ rfl fun _ h => h⟩
    ext := fun id x hx => by
      unfold updH at hx
      by_cases e : id = nid
      · simp [e] at hx
      · simp [e] at hx
        exact (h.ext id x hx).imp fun p ho => ho.mono hr (fun _ _ h => h) hγ rfl fun _ h => h
    inj := fun id id' q q' h1 h2 hp1 hp2 hblk => by
      unfold updH at h1 h2
      unfold updP at hp1 hp2
      by_cases e : id = nid
      · simp [e, Obj.isLive] at h1
      · by_cases e' : id' = nid
        · simp [e', Obj.isLive] at h2
        · simp [e] at h1 hp1; simp [e'] at h2 hp2; exact h.inj id id' q q' h1 h2 hp1 hp2 hblk }
theorem Sim.revive (h : Sim C γ I τ H tm w) {id sz : Nat} {es : List V} {mu : Bool} {p : Place} {c : Array Value} {t : TypeId × Nat × Nat}
    (hi : Idle γ (updH H id .dead) p.blk) (ho : ObjAt γ I w id sz es mu p c t) : Sim C γ I τ (updH H id (.live sz es mu)) tm w where
  below := h.below
  imm0 := h.imm0
  immB := h.immB
  immS := h.immS
  tmp := h.tmp
  kept := h.kept
  dom := fun x q hq => by
    have := h.dom x q hq
    refine ⟨?_, this.2⟩
    unfold updH
    by_cases e : x = id
    · simp [e]
    · simp [e]; exact this.1
  obj := fun x sz' es' mu' hl => by
    unfold updH at hl
    by_cases e : x = id
    · subst e
      simp at hl
      obtain ⟨rfl, rfl, rfl⟩ := hl
      exact .inr ⟨p, c, t, ho⟩
    · simp [e] at hl; exact h.obj x sz' es' mu' hl
  ext := fun x y hx => by
    unfold updH at hx
    by_cases e : x = id
    · simp [e] at hx
    · simp [e] at hx; exact h.ext x y hx
  inj := fun x y q q' h1 h2 hq hq' hblk => by
    have hpl := ho.place
    have live : ∀ z, z ≠ id → (updH H id (.live sz es mu) z).isLive → (updH H id .dead z).isLive := fun z hz hh => by
      unfold updH at hh ⊢
      simp [hz] at hh ⊢
      exact hh
    by_cases e : x = id
    · by_cases e' : y = id
      · rw [e, e']
      · subst e
        rw [hpl] at hq
        cases hq
        exact absurd hblk.symm (hi y q' (live y e' h2) hq')
    · by_cases e' : y = id
      · subst e'
        rw [hpl] at hq'
        cases hq'
        exact absurd hblk (hi x q (live x e h1) hq)
      · unfold updH at h1 h2
        simp [e] at h1; simp [e'] at h2
        exact h.inj x y q q' h1 h2 hq hq' hblk
theorem Sim.bornNil (h : Sim C γ I τ H tm w) {nid : Nat} (hn : H nid = .unborn) (sz : Nat) (mu : Bool) : Sim C γ I τ (updH H nid (.live sz [] mu)) tm w := by
  have hγn : γ nid = none := by
    rcases hg : γ nid with _ | p
    · rfl
    · exact absurd hn (h.dom nid p hg).1
  exact {
    below := h.below
    imm0 := h.imm0
    immB := h.immB
    immS := h.immS
    tmp := h.tmp
    kept := h.kept
    dom := fun x q hq => by
      have := h.dom x q hq
      refine ⟨?_, this.2⟩
      unfold updH
      by_cases e : x = nid
      · simp [e]
      · simp [e]; exact this.1
    obj := fun x sz' es' mu' hl => by
      unfold updH at hl
      by_cases e : x = nid
      · subst e
        simp at hl
        obtain ⟨rfl, rfl, rfl⟩ := hl
        exact .inl ⟨rfl, hγn⟩
      · simp [e] at hl; exact h.obj x sz' es' mu' hl
    ext := fun x y hx => by
      unfold updH at hx
      by_cases e : x = nid
      · simp [e] at hx
      · simp [e] at hx; exact h.ext x y hx
    inj := fun x y q q' h1 h2 hq hq' hblk => by
      unfold updH at h1 h2
      by_cases e : x = nid
      · subst e; rw [hγn] at hq; cases hq
      · by_cases e' : y = nid
        · subst e'; rw [hγn] at hq'; cases hq'
        · simp [e] at h1; simp [e'] at h2
          exact h.inj x y q q' h1 h2 hq hq' hblk }
theorem Sim.fixCells (h : Sim C γ I τ H tm w) {I' : Imm} (hI : ∀ g x, I g x → I' g x)
    (hI' : ∀ g x, I' g x → I g x ∨ (C.w0.heap.size ≤ g ∧ g < w.heap.size ∧ Idle γ H g)) : Sim C γ I' τ H tm w := by
  have hr : Pres I w w := Pres.refl I w
  exact {
    below := h.below
    imm0 := fun g x hx => hI _ _ (h.imm0 g x hx)
    immB := fun g x hx => (hI' g x hx).elim (h.immB g x) fun hg => .inr hg.1
    immS := fun g x hx => (hI' g x hx).elim (h.immS g x) fun hg => hg.2.1
    tmp := fun t => (h.tmp t).mono hr hI fun _ _ h => h
    kept := fun fr hf t => (h.kept fr hf t).mono hr hI fun _ _ h => h
    dom := h.dom
    obj := fun id sz es mu hl => by
      rcases h.obj id sz es mu hl with h0 | ⟨p, c, t, ho⟩
      · exact .inl h0
      · exact .inr ⟨p, c, t, ho.mono hr hI (fun _ _ h => h) rfl fun y hy => (hI' _ _ hy).elim (fun h => h) fun hg => absurd rfl (hg.2.2 id p (by rw [hl]; trivial) ho.place)⟩
    ext := fun id x hx => (h.ext id x hx).imp fun p ho => ho.mono hr hI (fun _ _ h => h) rfl fun y hy => (hI' _ _ hy).elim (fun h => h) fun hg => absurd rfl (hg.2.2 id p (by rw [hx]; trivial) ho.1)
    inj := h.inj }
theorem updH_updH (H : Heap) (id : Nat) (x y : Obj) : updH (updH H id x) id y = updH H id y := by
  funext z
  unfold updH
  by_cases e : z = id <;> simp [e]
theorem Rep.frozen {x : V} {v : Value} (h : Rep I w γ x v) (hf : x.isFc = true) : Rep I w noPlaces x v := by
  cases h with
  | sc => exact .sc _ _
  | nilslice => exact .nilslice _ _ _ _
  | slice _ _ _ _ _ _ f h1 h2 h3 h4 => exact .slice _ _ _ _ _ _ f h1 h2 h3 h4
  | mt => exact .mt _ _
  | _ => simp [V.isFc] at hf
theorem isF_cell {e x : V} (h : e.isF = true) {j : Nat} (hj : e.cells[j]? = some x) : x.isFc = true := by
  have hm := List.mem_of_getElem? hj
  cases e <;> simp only [V.cells, List.mem_singleton] at hm <;> first
    | (subst hm; exact h)
    | (simp only [V.isF, List.all_eq_true] at h; exact h x hm)
end Go.Idl
namespace Go.Idl
set_option linter.all false
open Go.RowKit
variable [Laid]
def Contract (P : Program) (f : FuncId) (F : List V → Option V) : Prop :=
  ∀ (I : Imm) (w : World) (args : Array Value) (xs : List V) (r : V), xs.length = args.size →
    (∀ (j : Nat) (x : V) (u : Value), xs[j]? = some x → args[j]? = some u → Rep I w noPlaces x u) → (∀ g x, I g x → g < w.heap.size) → Laid.ok w → F xs = some r →
    Calls P f args w fun e w' => ∃ u, e = .returned u ∧ Bel w.heap.size w w' ∧ Rep (fun g x => I g x ∨ (w.heap.size ≤ g ∧ g < w'.heap.size)) w' noPlaces r u
abbrev rf (r : Option Nat) : Fence := { fn := fun _ => True, depth := none, alive := false, round := r }
theorem calls_rf {P : Program} {r : Option Nat} {n : Nat} {f : FuncId} {args : Array Value} {w : World} {R : Ending → World → Prop} (h : Calls P f args w R) : CallsIn (rf r) n P f args w R :=
  (callsIn_wide (n := n)).2 h
theorem rf_fn {r : Option Nat} (f : FuncId) : (rf r).fn f := trivial
theorem rf_depth {r : Option Nat} {n : Nat} : (rf r).depth.isSome = true → 1 ≤ n := fun h => by cases h
theorem wpIn_of_run {P : Program} {r : Option Nat} {n : Nat} {o : Oper} {a : Act} {w : World} {K : Act → World → Prop} {Q : Exit → Act → World → Prop} {x : Result Next} (hrun : (execOp a.eval o).run P w = x)
    (hd : ∀ d w', x ≠ .ok (.defer d) w') (hh : ∀ e w', x ≠ .halt e w') (h : o.uponIn (rf r) n P a K Q x) : o.wpIn (rf r) n P a w K Q := by
  refine ⟨fun f _ => rf_fn f, ?_⟩
  have e : o.semAt (rf r).round a.eval = execOp a.eval o := by
    refine Oper.semAt_eq _ _ _ fun c hc => ?_
    have : execOp a.eval o = (do pure (.defer (← resolve a.eval c o.type))) := by simp [execOp, hc]
    rw [this, Sem.run_bind] at hrun
    cases hr : (resolve a.eval c o.type).run P w with
    | ok d w' => rw [hr] at hrun; exact hd d w' hrun.symm
    | halt e w' => rw [hr] at hrun; exact hh e w' hrun.symm
  rw [e, hrun]
  exact h
theorem wpListR_step {P : Program} {r : Option Nat} {n : Nat} {ops : Array Oper} {Q : Exit → Act → World → Prop} {rest : List Oper} {o : Oper} {a : Act} {w : World}
    (h : ∀ K : Act → World → Prop, (∀ a w, wpListIn (rf r) n P ops Q rest a w → K a w) →
      if Region.wanted o (yielded ops a.tmps) then o.wpIn (rf r) n P a w K Q else K (a.put o.dst undef) w) : wpListIn (rf r) n P ops Q (o :: rest) a w := by
  refine wpListIn_step fun K hK => ?_
  have := h K hK
  split
  · rename_i hw; rw [if_pos hw] at this; exact this
  · rename_i hw; rw [if_neg hw] at this; exact ⟨fun _ _ => trivial, this⟩
theorem wpOpR {P : Program} {r : Option Nat} {n : Nat} {ops : Array Oper} {Q : Exit → Act → World → Prop} {i : Nat} {o : Oper} {K : Act → World → Prop} {a : Act} {w : World} (ho : ops[i]? = some o)
    (h : if Region.wanted o (yielded ops a.tmps) then o.wpIn (rf r) n P a w K Q else K (a.put o.dst undef) w) : wpOpIn (rf r) n P ops Q i K a w := by
  unfold wpOpIn
  simp only [ho]
  split
  · rename_i hw; rw [if_pos hw] at h; exact h
  · rename_i hw; rw [if_neg hw] at h; exact ⟨fun _ _ => trivial, h⟩
def Lands (C : Ctx) (P : Program) (o : Oper) (a : Act) (w : World) (τ : Nat → V) (H : Heap) (v : V) : Prop :=
  ∀ (r : Option Nat) (K : Act → World → Prop) (Q : Exit → Act → World → Prop),
    (∀ u w' γ' I', Sim C γ' I' τ H a.tmps w' → Rep I' w' γ' v u → K (a.put o.dst u) w') → o.wpIn (rf r) 0 P a w K Q
variable {P : Program} {C : Ctx} {γ : Places} {I : Imm} {τ : Nat → V} {H : Heap} {w : World} {a : Act} {o : Oper} {v : V}
theorem lands_value {H' : Heap} {γ' : Places} {I' : Imm} {w' : World} {u : Value} (hrun : (execOp a.eval o).run P w = .ok (.value u) w')
    (hS : Sim C γ' I' τ H' a.tmps w') (hr : Rep I' w' γ' v u) : Lands C P o a w τ H' v := by
  intro r K Q hK
  exact wpIn_of_run hrun (by simp) (by simp) (hK _ _ _ _ hS hr)
theorem lands_skip {H' : Heap} {γ' : Places} {I' : Imm} {w' : World} (hrun : (execOp a.eval o).run P w = .ok .skip w')
    (hS : Sim C γ' I' τ H' a.tmps w') : Lands C P o a w τ H' .any := by
  intro r K Q hK
  exact wpIn_of_run hrun (by simp) (by simp) (hK _ _ _ _ hS (.any _ _))
theorem run_sizeT {t : TypeId} {n : Nat} (h : sizeT P t = some n) (w : World) : (sizeOf t).run P w = .ok n w := by
  unfold sizeT at h
  cases hi : P.info? t with
  | none => simp [hi] at h
  | some i => simp [hi] at h; simp [sizeOf, typeInfo, hi, h]
theorem run_zeroT {t : TypeId} {z : Value} (h : zeroT P t = some z) (w : World) : (zeroValue t).run P w = .ok z w := by
  unfold zeroT at h
  cases hi : P.info? t with
  | none => simp [hi] at h
  | some i => simp [hi] at h; simp [zeroValue, typeInfo, hi, h]
theorem run_aggT {t : TypeId} {d : TypeDesc} (h : P.underlying t = some d) (w : World) : (isAgg t).run P w = .ok (aggT P t) w := by
  simp only [isAgg, Sem.run_bind, run_underlying h, Result.andThen_ok, aggT, h]
  cases d <;> rfl
theorem addr_add (g x n : Nat) : (⟨g, x, none⟩ : Addr).add n = ⟨g, x + n, none⟩ := by
  unfold Addr.add
  split <;> simp_all
theorem run_readC {t : TypeId} {cells : List V} {off : Nat} (h : readC P t cells off = some v) {g x : Nat} {f : Nat → Value}
    (hc : ∀ j, j < cells.length → w.cell? ⟨g, x + j, none⟩ = some (f j)) (hr : ∀ (j : Nat) (c : V), cells[j]? = some c → Rep I w γ c (f j)) :
    ∃ u, (loadVar t ⟨g, x + off, none⟩).run P w = .ok u w ∧ Rep I w γ v u := by
  unfold readC at h
  split at h
  · rename_i hagg
    cases hs : sizeT P t with
    | none => simp [hs] at h
    | some n =>
      simp only [hs, Option.bind_some] at h
      split at h
      · rename_i hle
        cases hu : P.underlying t with
        | none => simp [aggT, hu] at hagg
        | some d =>
          simp at h
          subst h
          have hl := run_loadCells (P := P) w ⟨g, x + off, none⟩ n (fun j => f (off + j)) (fun j hj => by
            rw [addr_add, Nat.add_assoc]
            exact hc _ (by omega))
          refine ⟨.agg ((List.range n).map fun j => f (off + j)).toArray, ?_, ?_⟩
          · simp [loadVar, run_aggT hu, hagg, run_sizeT hs, hl]
          · refine .agg _ _ _ (by simp; omega) fun j c u hj hu => ?_
            rw [List.getElem?_take] at hj
            split at hj
            · rename_i hjn
              rw [List.getElem?_drop] at hj
              have he : f (off + j) = u := by simpa [hjn] using hu
              subst he
              exact hr _ _ hj
            · cases hj
      · simp at h
  · rename_i hagg
    split at h
    · rename_i d hu
      have hlt : off < cells.length := (List.getElem?_eq_some_iff.1 h).1
      refine ⟨f off, ?_, hr _ _ h⟩
      simp [loadVar, run_aggT hu, hagg, hc off hlt]
    · simp at h
theorem only_live {ids : List Nat} {x : Nat} {sz : Nat} {es : List V} {mu : Bool} (h : only ids H x = .live sz es mu) : H x = .live sz es mu := by
  unfold only at h
  split at h
  · exact h
  · cases h
theorem only_unborn {ids : List Nat} {x : Nat} (h : only ids H x = .unborn) : H x = .unborn := by
  unfold only at h
  split at h
  · exact h
  · cases h
theorem putH_one (H : Heap) (id : Nat) (x : Obj) : putH H [(id, x)] = updH H id x := rfl
section
variable (hS : Sim C γ I τ H a.tmps w)
include hS
theorem rep_opd (x : Operand) : Rep I w γ (opd τ x) (a.eval x) := hS.opd a.defers x
theorem lands_move {x : Operand} (ho : o.op = .move x ∨ o.op = .assign x) : Lands C P o a w τ H (opd τ x) := by
  refine lands_value (u := a.eval x) (w' := w) ?_ hS (rep_opd hS x)
  rcases ho with ho | ho <;> simp [execOp, ho]
theorem lands_pick {c x y : Operand} (ho : o.op = .pick c x y) {t : Bool} (hc : opd τ c = .sc (.bool t)) : Lands C P o a w τ H (if t then opd τ x else opd τ y) := by
  have h1 := rep_opd hS c
  rw [hc] at h1
  have h2 := h1.sc_eq
  refine lands_value (u := if t then a.eval x else a.eval y) (w' := w) ?_ hS ?_
  · simp [execOp, ho, h2, asBool]
  · cases t
    · exact rep_opd hS y
    · exact rep_opd hS x
theorem lands_pure {δ : List (Nat × Obj)} (h : evPure P (opd τ) o = some (v, δ)) : δ = [] ∧ Lands C P o a w τ H v := by
  unfold evPure at h
  split at h
  · rename_i hall
    split at h
    · cases h
    · rename_i hsel
      split at h
      · rename_i u hrun
        simp at h
        obtain ⟨rfl, rfl⟩ := h
        refine ⟨rfl, lands_value (u := u) (w' := w) ?_ hS (Rep.ofV u)⟩
        have hcong := execOp_congr (ρ := a.eval) (ρ' := fun x => ((opd τ x).conc).getD undef) o hsel (fun x hx => by
          have h1 := (Array.all_eq_true_iff_forall_mem.1 hall) x hx
          obtain ⟨c, hc⟩ := Option.isSome_iff_exists.1 h1
          simp only [hc, Option.getD_some]
          exact (rep_opd hS x).conc hc)
        rw [hcong]
        exact runPure_run hrun w
      · cases h
  · cases h
omit hS in
theorem solid_cells {x : V} {u : Value} (h : Rep I w γ x u) (hs : x.solid = true) :
    u.cells.size = x.cells.length ∧ (∀ c ∈ u.cells.toList, c.oneCell' = true) ∧ ∀ (j : Nat) (c : V), x.cells[j]? = some c → ∃ y, u.cells[j]? = some y ∧ Rep I w γ c y := by
  have one : ∀ {c : V} {y : Value}, Rep I w γ c y → c.cellOk = true → y.oneCell' = true := by
    intro c y hr hk
    cases hr <;> first | exact hk | (simp [V.cellOk] at hk; done) | rfl
  have single : x.cellOk = true → u.cells.size = 1 ∧ (∀ c ∈ u.cells.toList, c.oneCell' = true) ∧ u.cells = #[u] := by
    intro hk
    have ho := one h hk
    have hu : u.cells = #[u] := by cases u <;> first | rfl | (simp [Value.oneCell'] at ho; done)
    exact ⟨by rw [hu]; rfl, by rw [hu]; simpa using ho, hu⟩
  cases x with
  | agg cs =>
    cases h with
    | agg _ _ vs hl hh =>
      simp only [V.solid, List.all_eq_true] at hs
      refine ⟨hl.symm, fun c hc => ?_, fun j c hj => ?_⟩
      · have hc' : c ∈ vs.toList := hc
        obtain ⟨j, hj⟩ := List.getElem?_of_mem hc'
        have hjl : j < cs.length := by
          have := (List.getElem?_eq_some_iff.1 hj).1
          simp at this
          omega
        have h1 : cs[j]? = some cs[j] := List.getElem?_eq_getElem hjl
        exact one (hh j cs[j] c h1 (by simpa using hj)) (hs _ (List.getElem_mem hjl))
      · have hjl : j < vs.size := by
          have := (List.getElem?_eq_some_iff.1 hj).1
          simp [V.cells] at this
          omega
        exact ⟨vs[j], by simp [Value.cells, hjl], hh j c vs[j] hj (by simp [hjl])⟩
  | _ =>
    have hk := hs
    simp only [V.solid] at hk
    obtain ⟨h1, h2, h3⟩ := single hk
    refine ⟨by simpa [V.cells] using h1, h2, fun j c hj => ?_⟩
    cases j with
    | zero => simp [V.cells] at hj; subst hj; exact ⟨u, by rw [h3]; rfl, h⟩
    | succ j => simp [V.cells] at hj
omit hS in
theorem ofV_cells (z : Value) (j : Nat) (c : V) (hz : z.cells.size = (V.ofV z).cells.length) (hj : (V.ofV z).cells[j]? = some c) : ∃ y, z.cells[j]? = some y ∧ Rep I w γ c y := by
  cases z <;> simp only [V.ofV, V.cells] at hj ⊢
  case agg cs =>
    simp at hj
    obtain ⟨y, hy, rfl⟩ := hj
    exact ⟨y, by simpa [Value.cells] using hy, .sc _ _⟩
  case tuple vs =>
    cases j with
    | zero => simp at hj; subst hj; exact ⟨_, rfl, Rep.ofV (.tuple vs)⟩
    | succ j => simp at hj
  all_goals
    cases j with
    | zero => simp at hj; subst hj; exact ⟨_, rfl, .sc _ _⟩
    | succ j => simp at hj
omit hS in
theorem ofV_len (z : Value) : (V.ofV z).cells.length = z.cells.size := by
  cases z <;> simp [V.ofV, V.cells, Value.cells]
theorem lands_alloc {t : TypeId} (ho : o.op = .alloc t) {nid : Nat} {ids : List Nat} {δ : List (Nat × Obj)} (h : evAlloc P nid (only ids H) t = some (v, δ)) :
    Lands C P o a w τ (putH H δ) v := by
  unfold evAlloc at h
  split at h
  · rename_i z h0 hz
    simp at h
    obtain ⟨rfl, rfl⟩ := h
    have hb := hS.born (nid := nid) (sz := z.cells.size) (es := [V.ofV z]) (c := z.cells) (t := t) (only_unborn h0) (by simp [ofV_len]) (fun i j e x he hx => by
      cases i with
      | zero => simp at he; subst he; simpa using ofV_cells z j x (ofV_len z).symm hx
      | succ i => simp at he)
    refine lands_value (u := .pointer (some ⟨w.heap.size, 0, none⟩)) ?_ hb.1 ?_
    · simp [execOp, ho, Instr.alloc, run_zeroT hz, newVar, newRow]
    · have := Rep.ref (I := I) (w := w.alloc (.cells z.cells t)) (updP γ nid ⟨w.heap.size, 0, z.cells.size⟩) nid 0 0 ⟨w.heap.size, 0, z.cells.size⟩ (by simp [updP])
      simpa using this
  · cases h
theorem lands_box {t : TypeId} {x : Operand} (ho : o.op = .box t x) {nid : Nat} {ids : List Nat} {δ : List (Nat × Obj)} (h : evBox nid (only ids H) (opd τ x) = some (v, δ)) :
    Lands C P o a w τ (putH H δ) v := by
  unfold evBox at h
  split at h
  · rename_i h0
    split at h
    · rename_i hs
      simp at h
      obtain ⟨rfl, rfl⟩ := h
      obtain ⟨h1, _, h3⟩ := solid_cells (rep_opd hS x) hs
      have hb := hS.born (nid := nid) (sz := (opd τ x).cells.length) (es := [opd τ x]) (c := (a.eval x).cells) (t := t) (only_unborn h0) (by simp) (fun i j e y he hx => by
        cases i with
        | zero => simp at he; subst he; simpa using h3 j y hx
        | succ i => simp at he)
      refine lands_value (u := .pointer (some ⟨w.heap.size, 0, none⟩)) ?_ hb.1 ?_
      · simp [execOp, ho, Instr.box, newVar, newRow]
      · have := Rep.ref (I := I) (w := w.alloc (.cells (a.eval x).cells t)) (updP γ nid ⟨w.heap.size, 0, (opd τ x).cells.length⟩) nid 0 0 ⟨w.heap.size, 0, (opd τ x).cells.length⟩ (by simp [updP])
        simpa using this
    · cases h
  · cases h
end
end Go.Idl
namespace Go.Idl
set_option linter.all false
open Go.RowKit
variable [Laid]
variable {P : Program} {C : Ctx} {γ : Places} {I : Imm} {τ : Nat → V} {H : Heap} {w : World} {a : Act} {o : Oper} {v : V}
theorem cell_blk {g x : Nat} {c : Array Value} {t : TypeId} {m : Nat × Nat} (h : w.heap[g]? = some (.cells c t m)) : w.cell? ⟨g, x, none⟩ = c[x]? := by
  simp [World.cell?, h]
theorem ObjAt.elem {id sz : Nat} {es : List V} {mu : Bool} {p : Place} {c : Array Value} {t : TypeId × Nat × Nat} (h : ObjAt γ I w id sz es mu p c t) {i : Nat} {e : V} (he : es[i]? = some e) :
    ∃ f : Nat → Value, (∀ j, j < e.cells.length → w.cell? ⟨p.blk, p.off + i * sz + j, none⟩ = some (f j)) ∧ ∀ (j : Nat) (x : V), e.cells[j]? = some x → Rep I w γ x (f j) := by
  refine ⟨fun j => (c[p.off + i * sz + j]?).getD undef, fun j hj => ?_, fun j x hx => ?_⟩
  · obtain ⟨u, hu, _⟩ := h.cell i j e e.cells[j] he (List.getElem?_eq_getElem hj)
    rw [cell_blk h.blk]; simp [hu]
  · obtain ⟨u, hu, hr⟩ := h.cell i j e x he hx
    simp only [hu, Option.getD_some]; exact hr
section
variable (hS : Sim C γ I τ H a.tmps w)
include hS
theorem lands_load {t : TypeId} {x : Operand} (ho : o.op = .load t x) {ids : List Nat} (h : evLoad P (only ids H) t (opd τ x) = some v) : Lands C P o a w τ H v := by
  have hx := rep_opd hS x
  have fin : ∀ {g y : Nat} {u : Value}, a.eval x = .pointer (some ⟨g, y, none⟩) → (loadVar t ⟨g, y, none⟩).run P w = .ok u w → Rep I w γ v u → Lands C P o a w τ H v := by
    intro g y u he hl hr
    refine lands_value (u := u) (w' := w) ?_ hS hr
    simp [execOp, ho, Instr.loadAt, Instr.sureAddr, he, hl]
  unfold evLoad at h
  split at h
  · rename_i id idx off hv
    rw [hv] at hx
    split at h
    · rename_i sz es mu hl
      cases he : es[idx]? with
      | none => simp [he] at h
      | some e =>
        simp only [he, Option.bind_some] at h
        rcases hS.obj id sz es mu (only_live hl) with h0 | ⟨p, c, t', ho'⟩
        · rw [h0.1] at he; simp at he
        · generalize hu : a.eval x = u at hx
          cases hx with
          | ref _ _ _ _ q hq =>
            rw [ho'.place] at hq
            cases hq
            obtain ⟨f, hf1, hf2⟩ := ho'.elem he
            rw [ho'.size] at hu
            obtain ⟨y, hy, hr⟩ := run_readC (w := w) (γ := γ) (I := I) h hf1 hf2
            exact fin hu hy hr
    · cases h
  · rename_i e off hv
    rw [hv] at hx
    generalize hu : a.eval x = u at hx
    cases hx with
    | elem _ _ _ g b f hc hh =>
      obtain ⟨y, hy, hr⟩ := run_readC (w := w) (γ := noPlaces) (I := I) h (fun j hj => (hc j hj).2) hh
      exact fin hu hy (hr.mono (Pres.refl I w) (fun _ _ h => h) (by simp [noPlaces]))
  · cases h
omit hS in
theorem splice_get {cells new : List V} {off j : Nat} (hle : off + new.length ≤ cells.length) :
    (splice cells off new)[j]? = if off ≤ j ∧ j < off + new.length then new[j - off]? else cells[j]? := by
  unfold splice
  have h1 : (cells.take off).length = off := by simp; omega
  rw [List.append_assoc]
  by_cases hj : j < off
  · rw [List.getElem?_append_left (by omega), if_neg (by omega), List.getElem?_take, if_pos hj]
  · rw [List.getElem?_append_right (by omega), h1]
    by_cases hj2 : j < off + new.length
    · rw [List.getElem?_append_left (by omega), if_pos ⟨by omega, hj2⟩]
    · rw [List.getElem?_append_right (by omega), if_neg (by omega), List.getElem?_drop]
      congr 1
      omega
omit hS in
theorem splice_len {cells new : List V} {off : Nat} (hle : off + new.length ≤ cells.length) : (splice cells off new).length = cells.length := by
  unfold splice
  simp
  omega
omit hS in
theorem write_len {e x : V} {off : Nat} (hle : off + x.cells.length ≤ e.cells.length) : (e.write off x).cells.length = e.cells.length := by
  unfold V.write
  split
  · assumption
  · exact splice_len hle
omit hS in
theorem write_get {e x : V} {off j : Nat} (hle : off + x.cells.length ≤ e.cells.length) :
    (e.write off x).cells[j]? = if off ≤ j ∧ j < off + x.cells.length then x.cells[j - off]? else e.cells[j]? := by
  unfold V.write
  split
  · rename_i heq
    have h0 : off = 0 := by omega
    subst h0
    by_cases hj : j < x.cells.length
    · simp [hj]
    · rw [if_neg (by omega)]
      rw [List.getElem?_eq_none (by omega), List.getElem?_eq_none (by omega)]
  · exact splice_get hle
omit hS in
theorem run_storeCells_q (g o : Nat) (t : TypeId) (fz : Nat × Nat) : ∀ (vs : List Value) (i : Nat) (cur : Array Value) (w : World), w.heap[g]? = some (.cells cur t fz) → Quiet fz cur.size → o + i + vs.length ≤ cur.size → (∀ v ∈ vs, v.oneCell' = true) →
    (storeCells ⟨g, o, none⟩ vs i).run P w = .ok () (w.setRow g (cur.toList.take (o + i) ++ vs ++ cur.toList.drop (o + i + vs.length)).toArray)
  | [], i, cur, w, hg, _, _, _ => by
    simp only [storeCells, List.append_nil, List.length_nil, Nat.add_zero, List.take_append_drop, Array.toArray_toList]
    rw [setRow_self w g cur t fz hg]
    rfl
  | v :: rest, i, cur, w, hg, hq, hl, h1 => by
    have hi : o + i < cur.size := by simp at hl; omega
    have hadd : (⟨g, o, none⟩ : Addr).add i = ⟨g, o + i, none⟩ := by unfold Addr.add; split <;> simp_all
    have hcell : w.cell? ⟨g, o + i, none⟩ = some cur[o + i] := by simp [World.cell?, hg, hi]
    have hfro : w.frozen? ⟨g, o + i, none⟩ = false := hq.frozen hg hi
    have hst : (store ((⟨g, o, none⟩ : Addr).add i) v).run P w = .ok () (w.setRow g (cur.setIfInBounds (o + i) v)) := by
      rw [hadd, run_store P w _ v _ (h1 v (by simp)), hcell]
      simp [hfro, setCell_eq_setRow w g (o + i) cur t fz v hg]
    have ih := run_storeCells_q g o t fz rest (i + 1) (cur.setIfInBounds (o + i) v) (w.setRow g (cur.setIfInBounds (o + i) v)) (setRow_heap w g cur _ t _ hg) (by simpa using hq) (by simp at hl ⊢; omega) (fun x hx => h1 x (by simp [hx]))
    simp only [storeCells, Sem.run_bind, hst, Result.andThen_ok, ih, setRow_setRow]
    congr 3
    have e := list_seg_step cur.toList (o + i) v rest (by simp at hl ⊢; omega)
    simpa [Array.toList_setIfInBounds, Nat.add_assoc] using e
omit hS in
theorem run_storeVar_at {t : TypeId} {u : Value} {g b : Nat} {c : Array Value} {t' : TypeId} {m : Nat × Nat} (hsz : sizeT P t = some u.cells.size) (hg : w.heap[g]? = some (.cells c t' m)) (hq : Quiet m c.size)
    (hb : b + u.cells.size ≤ c.size) (h1 : ∀ x ∈ u.cells.toList, x.oneCell' = true) :
    ∃ c' w', (storeVar t ⟨g, b, none⟩ u).run P w = .ok () w' ∧ w'.heap[g]? = some (.cells c' t' m) ∧ c'.size = c.size ∧
      (∀ j, c'[j]? = if b ≤ j ∧ j < b + u.cells.size then u.cells[j - b]? else c[j]?) ∧ (∀ k, k ≠ g → w'.heap[k]? = w.heap[k]?) ∧ w'.heap.size = w.heap.size ∧
      w'.os = w.os ∧ w'.tape = w.tape ∧ w'.output = w.output ∧ w'.drawn = w.drawn := by
  have hst := run_storeCells_q (P := P) g b t' m u.cells.toList 0 c w hg hq (by simpa using hb) h1
  simp only [Nat.add_zero] at hst
  refine ⟨(c.toList.take b ++ u.cells.toList ++ c.toList.drop (b + u.cells.toList.length)).toArray, _, ?_, setRow_heap w g c _ t' m hg, ?_, ?_, ?_, ?_, ?_, ?_, ?_, ?_⟩
  · simp [storeVar, run_sizeT hsz, hst]
  · simp; omega
  · intro j
    have h1 : (c.toList.take b).length = b := by simp; omega
    rw [List.getElem?_toArray, List.append_assoc]
    by_cases hj : j < b
    · rw [List.getElem?_append_left (by omega), if_neg (by omega), List.getElem?_take, if_pos hj, Array.getElem?_toList]
    · rw [List.getElem?_append_right (by omega), h1]
      by_cases hj2 : j < b + u.cells.size
      · rw [List.getElem?_append_left (by simp; omega), if_pos ⟨by omega, hj2⟩, Array.getElem?_toList]
      · rw [List.getElem?_append_right (by simp; omega), if_neg (by omega), List.getElem?_drop, Array.getElem?_toList]
        congr 1
        simp
        omega
  · intro k hk
    simp only [World.setRow, Array.getElem?_modify]
    rw [if_neg (fun e => hk e.symm)]
  · simp [World.setRow]
  · rfl
  · rfl
  · rfl
  · rfl
omit hS in
theorem cells_split {sz i j k : Nat} (hj : j < sz) (hk : k < sz) {n m : Nat} (h : i * sz + j = n * sz + k + m * 0) : i = n ∧ j = k := by
  simp at h
  have h1 : i = n := by
    have e1 : (i * sz + j) / sz = i := by rw [Nat.mul_comm, Nat.mul_add_div (by omega), Nat.div_eq_of_lt hj]; omega
    have e2 : (n * sz + k) / sz = n := by rw [Nat.mul_comm, Nat.mul_add_div (by omega), Nat.div_eq_of_lt hk]; omega
    rw [← e1, ← e2, h]
  subst h1
  exact ⟨rfl, by omega⟩
theorem lands_store {t : TypeId} {x y : Operand} (ho : o.op = .store t x y) {ids : List Nat} {δ : List (Nat × Obj)} (h : evStore P (only ids H) t (opd τ y) (opd τ x) = some δ) :
    Lands C P o a w τ (putH H δ) .any := by
  have hx := rep_opd hS x
  have hy := rep_opd hS y
  unfold evStore at h
  split at h
  · rename_i id idx off hv
    rw [hv] at hx
    split at h
    · rename_i sz es hl0
      have hl := only_live hl0
      split at h
      · rename_i e n he hn
        split at h
        · rename_i hcond
          obtain ⟨hsol, hlen, hpos, hoff⟩ := hcond
          simp at h
          subst h
          rw [putH_one]
          rcases hS.obj id sz es true hl with h0 | ⟨p, c, t', ho'⟩
          · rw [h0.1] at he; simp at he
          · generalize hu : a.eval x = u at hx
            cases hx with
            | ref _ _ _ _ q hq =>
              rw [ho'.place] at hq
              cases hq
              rw [ho'.size] at hu
              obtain ⟨hc1, hc2, hc3⟩ := solid_cells hy hsol
              have hel : e.cells.length = sz := ho'.len e (List.mem_of_getElem? he)
              have hidx : idx < es.length := (List.getElem?_eq_some_iff.1 he).1
              have hsz : sizeT P t = some (a.eval y).cells.size := by rw [hn, hc1, hlen]
              have hroom : p.off + idx * sz + off + (a.eval y).cells.size ≤ c.size := by
                rw [hc1, hlen]
                obtain ⟨u1, hu1, _⟩ := ho'.cell idx (off + n - 1) e e.cells[off + n - 1] he (List.getElem?_eq_getElem (by omega))
                have := (Array.getElem?_eq_some_iff.1 hu1).1
                omega
              obtain ⟨c', w', hrun, hg', hs', hget, hfar, hsize, hos, htape, hout, hdr⟩ := run_storeVar_at (w := w) hsz ho'.blk ho'.quiet hroom hc2
              have hlive : (H id).isLive := by rw [hl]; trivial
              have hd := hS.dom id p ho'.place
              have k1 := (hS.kill id).touch hd.2.1 (hS.idle hlive ho'.place) ho'.blk hg' hs' (fun y hy => absurd hy (ho'.mutb rfl y)) hfar hsize hos htape hout hdr
              have hp : Pres I w w' := ⟨fun g z hz => by
                  by_cases eg : g = p.blk
                  · subst eg; exact absurd hz (ho'.mutb rfl z)
                  · simp [World.cell?, hfar g eg], fun g c0 t0 m0 h0 => by
                  by_cases eg : g = p.blk
                  · subst eg; rw [ho'.blk] at h0; cases h0; exact ⟨c', hg', hs'⟩
                  · exact ⟨c0, (hfar g eg).trans h0, rfl⟩, fun g es n hx h0 => by
                  by_cases eg : g = p.blk
                  · subst eg; rw [ho'.blk] at h0; cases h0
                  · exact (hfar g eg).trans h0⟩
              have hle : off + (opd τ y).cells.length ≤ e.cells.length := by omega
              have k2 : Sim C γ I τ (updH (updH H id .dead) id (.live sz (es.set idx (e.write off (opd τ y))) true)) a.tmps w' := by
                refine k1.revive (p := p) (c := c') (t := t') ?_ ⟨ho'.place, ho'.size, hg', ?_, ?_, fun _ z hz => ho'.mutb rfl z hz, by simp, by rw [hs']; exact ho'.quiet⟩
                · rw [updH_updH]; exact hS.idle hlive ho'.place
                · intro e' he'
                  rcases List.mem_or_eq_of_mem_set he' with h1 | h1
                  · exact ho'.len e' h1
                  · subst h1; rw [write_len hle]; exact hel
                · intro i j e' z he' hz
                  by_cases hi : i = idx
                  · subst hi
                    rw [List.getElem?_set_self hidx] at he'
                    cases he'
                    rw [write_get hle] at hz
                    rw [hget]
                    by_cases hin : off ≤ j ∧ j < off + (opd τ y).cells.length
                    · rw [if_pos hin] at hz
                      obtain ⟨z', hz', hr⟩ := hc3 _ _ hz
                      refine ⟨z', ?_, hr.mono hp (fun _ _ h => h) fun _ _ h => h⟩
                      rw [if_pos (by omega)]
                      rw [show p.off + i * sz + j - (p.off + i * sz + off) = j - off from by omega]
                      exact hz'
                    · rw [if_neg hin] at hz
                      obtain ⟨z', hz', hr⟩ := ho'.cell i j e z he hz
                      refine ⟨z', ?_, hr.mono hp (fun _ _ h => h) fun _ _ h => h⟩
                      rw [if_neg (by omega)]
                      exact hz'
                  · rw [List.getElem?_set_ne (fun h => hi h.symm)] at he'
                    obtain ⟨z', hz', hr⟩ := ho'.cell i j e' z he' hz
                    refine ⟨z', ?_, hr.mono hp (fun _ _ h => h) fun _ _ h => h⟩
                    rw [hget, if_neg ?_]
                    · exact hz'
                    · intro hin
                      have hjl : j < sz := by
                        have := (List.getElem?_eq_some_iff.1 hz).1
                        rw [ho'.len e' (List.mem_of_getElem? he')] at this
                        exact this
                      have hk : p.off + i * sz + j - p.off - idx * sz < sz := by omega
                      have := cells_split (sz := sz) (i := i) (j := j) (n := idx) (k := p.off + i * sz + j - p.off - idx * sz) (m := 0) hjl hk (by omega)
                      exact hi this.1
              rw [updH_updH] at k2
              refine lands_skip (w' := w') ?_ k2
              simp [execOp, ho, Instr.storeAt, Instr.sureAddr, hu, hrun]
        · cases h
      · cases h
    · cases h
  · cases h
omit hS in
theorem shift_rep {x y : V} {u : Value} {n : Nat} (h : shift n x = some y) (hr : Rep I w γ x u) :
    ∃ g b, u = .pointer (some ⟨g, b, none⟩) ∧ Rep I w γ y (.pointer (some ⟨g, b + n, none⟩)) := by
  cases hr <;> simp [shift] at h
  case ref id idx off p hp =>
    subst h
    refine ⟨_, _, rfl, ?_⟩
    rw [Nat.add_assoc]
    exact .ref _ _ _ _ _ hp
  case elem e off g b f hc hh =>
    subst h
    refine ⟨_, _, rfl, ?_⟩
    rw [Nat.add_assoc]
    exact .elem _ _ _ _ _ f hc hh
theorem lands_fieldAddr {s : TypeId} {x : Operand} {f : Nat} (ho : o.op = .fieldAddr s x f) (h : evFieldAddr P s f (opd τ x) = some v) : Lands C P o a w τ H v := by
  unfold evFieldAddr at h
  cases hf : fieldT P s f with
  | none => simp [hf] at h
  | some fd =>
    simp only [hf, Option.bind_some] at h
    split at h
    · cases h
    · rename_i hsz
      obtain ⟨g, b, hu, hr⟩ := shift_rep h (rep_opd hS x)
      refine lands_value (w' := w) ?_ hS hr
      unfold fieldT at hf
      split at hf
      · rename_i fs hfs
        cases hs : sizeT P fd.type with
        | none => simp [hs] at hsz
        | some n =>
          have hn : n ≠ 0 := by rintro rfl; simp [hs] at hsz
          simp [execOp, ho, Instr.fieldAt, run_underlying hfs, hf, hu, Instr.sureAddr, fieldPlace, run_sizeT hs, hn, addr_add]
      · cases hf
theorem lands_indexAddr {t : TypeId} {x i : Operand} (ho : o.op = .indexAddr t x i) {ids : List Nat} (h : evIndexAddr P (only ids H) t (opd τ x) (opd τ i) = some v) : Lands C P o a w τ H v := by
  have hx := rep_opd hS x
  have hi := rep_opd hS i
  unfold evIndexAddr at h
  split at h
  · rename_i k n hin
    rw [hin] at hi
    have hi' := hi.sc_eq
    split at h
    · rename_i et hut
      cases hs : sizeT P et with
      | none => simp [hs] at h
      | some sz =>
        simp only [hs, Option.bind_some] at h
        split at h
        · rename_i s es hv
          split at h
          · rename_i hc
            obtain ⟨rfl, h0⟩ := hc
            cases he : es[n.toNat]? with
            | none => simp [he] at h
            | some e =>
              simp [he] at h
              subst h
              have hlt : n.toNat < es.length := (List.getElem?_eq_some_iff.1 he).1
              rw [hv] at hx
              generalize hu : a.eval x = u at hx
              cases hx with
              | nilslice => simp at hlt
              | slice _ _ _ g b cap f hcap hsz hcc hh =>
                refine lands_value (u := .pointer (some ⟨g, b + n.toNat * s, none⟩)) (w' := w) ?_ hS ?_
                · have hn : n < es.length := by omega
                  simp [execOp, ho, Instr.indexAt, hi', asIntOf, run_underlying hut, hu, h0, hn, run_sizeT hs, addr_add]
                · have := Rep.elem (I := I) (w := w) γ e 0 g (b + n.toNat * s) (f n.toNat) (fun j hj => by
                    rw [hsz e (List.mem_of_getElem? he)] at hj
                    exact hcc _ _ hlt hj) (fun j c hc => hh _ _ _ _ he hc)
                  simpa using this
          · cases h
        · rename_i id off len hv
          split at h
          · rename_i s es mu hl0
            have hl := only_live hl0
            split at h
            · rename_i hc
              obtain ⟨rfl, h0, h1⟩ := hc
              simp at h
              subst h
              rw [hv] at hx
              generalize hu : a.eval x = u at hx
              cases hx with
              | own0 => simp at h1; omega
              | own _ _ _ _ cap p c t' m hp hcap hb hroom =>
                rcases hS.obj id s es mu hl with h2 | ⟨q, c2, t2, ho'⟩
                · rw [h2.2] at hp; cases hp
                · rw [ho'.place] at hp
                  cases hp
                  rw [ho'.size] at hu
                  refine lands_value (u := .pointer (some ⟨p.blk, p.off + off * s + n.toNat * s, none⟩)) (w' := w) ?_ hS ?_
                  · simp [execOp, ho, Instr.indexAt, hi', asIntOf, run_underlying hut, hu, h0, h1, run_sizeT hs, addr_add]
                  · have := Rep.ref (I := I) (w := w) γ id (off + n.toNat) 0 p ho'.place
                    rw [ho'.size, Nat.add_mul] at this
                    rw [Nat.add_assoc]
                    simpa using this
            · cases h
          · cases h
        · cases h
    · rename_i len et hut
      cases hs : sizeT P et with
      | none => simp [hs] at h
      | some sz =>
        simp only [hs, Option.bind_some] at h
        split at h
        · rename_i hc
          obtain ⟨g, b, hu, hr⟩ := shift_rep h hx
          refine lands_value (w' := w) ?_ hS hr
          simp [execOp, ho, Instr.indexAt, hi', asIntOf, run_underlying hut, hu, Instr.sureAddr, hc.1, hc.2, run_sizeT hs, addr_add]
        · cases h
    · cases h
  · cases h
theorem lands_field {s : TypeId} {x : Operand} {f : Nat} (ho : o.op = .field s x f) {cs : List V} (hx : opd τ x = .agg cs) {fd : Field} (hf : fieldT P s f = some fd)
    (h : readC P fd.type cs fd.offset = some v) : Lands C P o a w τ H v := by
  have hr := rep_opd hS x
  rw [hx] at hr
  generalize hu : a.eval x = u at hr
  cases hr with
  | agg _ _ vs hl hh =>
    unfold fieldT at hf
    split at hf
    · rename_i fs hfs
      unfold readC at h
      split at h
      · rename_i hagg
        cases hs : sizeT P fd.type with
        | none => simp [hs] at h
        | some n =>
          simp only [hs, Option.bind_some] at h
          split at h
          · rename_i hle
            simp at h
            subst h
            cases hud : P.underlying fd.type with
            | none => simp [aggT, hud] at hagg
            | some d =>
              refine lands_value (u := .agg (vs.extract fd.offset (fd.offset + n))) (w' := w) ?_ hS ?_
              · simp [execOp, ho, Instr.field, run_underlying hfs, hf, hu, asAgg, part, run_aggT hud, hagg, run_sizeT hs]
              · refine .agg _ _ _ (by simp; omega) fun j c y hj hy => ?_
                rw [List.getElem?_take] at hj
                split at hj
                · rename_i hjn
                  rw [List.getElem?_drop] at hj
                  refine hh (fd.offset + j) c y hj ?_
                  rw [← hy, Array.getElem?_extract, if_pos (by omega)]
                · cases hj
          · cases h
      · rename_i hagg
        split at h
        · rename_i d hud
          have hlt : fd.offset < vs.size := by
            have := (List.getElem?_eq_some_iff.1 h).1
            omega
          refine lands_value (u := vs[fd.offset]) (w' := w) ?_ hS (hh _ _ _ h (by simp [hlt]))
          simp [execOp, ho, Instr.field, run_underlying hfs, hf, hu, asAgg, part, run_aggT hud, hagg, hlt]
        · cases h
    · cases hf
theorem lands_extract {x : Operand} {i : Nat} (ho : o.op = .extract x i) {vs : List V} (hx : opd τ x = .tup vs) (h : vs[i]? = some v) : Lands C P o a w τ H v := by
  have hr := rep_opd hS x
  rw [hx] at hr
  generalize hu : a.eval x = u at hr
  cases hr with
  | tup _ _ us hl hh =>
    have hlt : i < us.size := by
      have := (List.getElem?_eq_some_iff.1 h).1
      omega
    refine lands_value (u := us[i]) (w' := w) ?_ hS (hh _ _ _ h (by simp [hlt]))
    simp [execOp, ho, Instr.extract, hu, hlt]
theorem lands_makeFunc {fn : Fn} {xs ys : Array Operand} (ho : o.op = .makeFunc fn xs ys) : Lands C P o a w τ H (.fn fn (xs.toList.map (opd τ)) (ys.toList.map (opd τ))) := by
  refine lands_value (u := .func fn (xs.map a.eval) (ys.map a.eval)) (w' := w) ?_ hS ?_
  · simp [execOp, ho, Instr.makeFunc]
  · refine .fn _ _ _ _ _ _ (by simp) (by simp) (fun j c u hc hu => ?_) (fun j c u hc hu => ?_)
    all_goals
      simp at hc hu
      obtain ⟨x, hx, rfl⟩ := hc
      obtain ⟨y, hy, rfl⟩ := hu
      rw [hx] at hy
      cases hy
      exact rep_opd hS x
theorem lands_nilCheck {x : Operand} (ho : o.op = .nilCheck x) (hv : (∃ id idx off, opd τ x = .ref id idx off) ∨ ∃ e off, opd τ x = .elem e off) : Lands C P o a w τ H (opd τ x) := by
  have hr := rep_opd hS x
  have : ∃ ad, a.eval x = .pointer (some ad) := by
    rcases hv with ⟨id, idx, off, e⟩ | ⟨e', off, e⟩ <;> rw [e] at hr <;> generalize a.eval x = u at hr <;> cases hr <;> exact ⟨_, rfl⟩
  obtain ⟨ad, hu⟩ := this
  refine lands_value (u := .pointer (some ad)) (w' := w) ?_ hS (hu ▸ hr)
  simp [execOp, ho, hu]
omit hS in
theorem len_rep {x : V} {u : Value} {n : Nat} (hr : Rep I w γ x u) (h : x.len = some n) : ∃ A cap, u = .slice A n cap := by
  cases hr with
  | sc _ u =>
    cases u <;> simp [V.len] at h
    subst h
    exact ⟨_, _, rfl⟩
  | nilslice => simp [V.len] at h; subst h; exact ⟨_, _, rfl⟩
  | slice => simp [V.len] at h; subst h; exact ⟨_, _, rfl⟩
  | own => simp [V.len] at h; subst h; exact ⟨_, _, rfl⟩
  | own0 => simp [V.len] at h; subst h; exact ⟨_, _, rfl⟩
  | mt => simp [V.len] at h; subst h; exact ⟨_, _, rfl⟩
  | _ => simp [V.len] at h
theorem lands_len {c : Call} {x : Operand} {n : Nat} {t e : TypeId} (ho : o.op = .call c) (hc : c.callee = .builtin .len) (hargs : c.args.toList = [x]) (hts : c.argTypes.toList = [t]) (ht : P.underlying t = some (.slice e))
    (h : (opd τ x).len = some n) : Lands C P o a w τ H (.sc (.int .i64 n)) := by
  obtain ⟨A, cap, hu⟩ := len_rep (rep_opd hS x) h
  refine lands_value (u := .int .i64 n) (w' := w) ?_ hS (.sc _ _)
  have h1 : c.args = #[x] := by rw [← Array.toArray_toList (xs := c.args), hargs]
  have h2 : c.argTypes = #[t] := by rw [← Array.toArray_toList (xs := c.argTypes), hts]
  simp [execOp, ho, resolve, hc, h1, h2, invoke, builtin, Builtin.len_, run_underlying ht, hu, goInt]
end
end Go.Idl
namespace Go.Idl
set_option linter.all false
open Go.RowKit
variable [Laid]
variable {P : Program} {C : Ctx} {γ : Places} {I : Imm} {τ : Nat → V} {H : Heap} {w : World} {a : Act} {o : Oper} {v : V}
theorem fold_set (off : Nat) : ∀ (l : List Value) (s : Nat) (c : Array Value), off + s + l.length ≤ c.size →
    ((l.zipIdx s).foldl (fun (cs : Array Value) (x : Value × Nat) => cs.setIfInBounds (off + x.2) x.1) c).size = c.size ∧
    ∀ k, ((l.zipIdx s).foldl (fun (cs : Array Value) (x : Value × Nat) => cs.setIfInBounds (off + x.2) x.1) c)[k]? =
      if off + s ≤ k ∧ k < off + s + l.length then l[k - (off + s)]? else c[k]?
  | [], s, c, _ => by simp; intro k h1 h2; omega
  | x :: l, s, c, h => by
    have h' : off + (s + 1) + l.length ≤ (c.setIfInBounds (off + s) x).size := by simp at h ⊢; omega
    obtain ⟨i1, i2⟩ := fold_set off l (s + 1) (c.setIfInBounds (off + s) x) h'
    simp only [List.zipIdx_cons, List.foldl_cons]
    refine ⟨by rw [i1]; simp, fun k => ?_⟩
    rw [i2]
    simp only [List.length_cons] at h ⊢
    by_cases hk : off + s = k
    · subst hk
      rw [if_neg (by omega), if_pos (by omega), Nat.sub_self, Array.getElem?_setIfInBounds_self_of_lt (by omega)]
      rfl
    · rw [Array.getElem?_setIfInBounds_ne hk]
      by_cases hin : off + (s + 1) ≤ k ∧ k < off + (s + 1) + l.length
      · rw [if_pos hin, if_pos (by omega)]
        rw [show k - (off + s) = (k - (off + (s + 1))) + 1 from by omega]
        rfl
      · rw [if_neg hin, if_neg (by omega)]
def RepRow (I : Imm) (w : World) (γ : Places) (cells : List V) (c : Array Value) : Prop :=
  cells.length = c.size ∧ ∀ (j : Nat) (x : V), cells[j]? = some x → ∃ u, c[j]? = some u ∧ Rep I w γ x u
theorem fill_rep {place : Nat → Option (Nat × Nat)} {place' : Nat → Option (Nat × Nat)} (hpl : ∀ i p, place i = some p → place' i = some p) :
    ∀ (parts : List (Nat × V)) (parts' : List (Nat × Value)) (cells : List V) (c : Array Value) (r : List V),
      parts.length = parts'.length → (∀ (k : Nat) i x i' u, parts[k]? = some (i, x) → parts'[k]? = some (i', u) → i = i' ∧ Rep I w γ x u) → RepRow I w γ cells c →
      fillV place cells parts = some r → ∃ c', Instr.fill place' c parts' = some c' ∧ RepRow I w γ r c'
  | [], [], cells, c, r, _, _, hrow, h => by simp [fillV] at h; subst h; exact ⟨c, rfl, hrow⟩
  | [], _ :: _, _, _, _, hl, _, _, _ => by simp at hl
  | _ :: _, [], _, _, _, hl, _, _, _ => by simp at hl
  | (i, x) :: parts, (i', u) :: parts', cells, c, r, hl, hp, hrow, h => by
    obtain ⟨rfl, hr⟩ := hp 0 i x i' u rfl rfl
    simp only [fillV] at h
    split at h
    · cases h
    · rename_i off size hpi
      split at h
      · rename_i hc
        obtain ⟨hs, hlen, hle⟩ := hc
        obtain ⟨h1, h2, h3⟩ := solid_cells hr hs
        have hfold : off + 0 + u.cells.toList.length ≤ c.size := by simp; rw [h1, hlen, ← hrow.1]; exact hle
        obtain ⟨f1, f2⟩ := fold_set off u.cells.toList 0 c hfold
        have hrow' : RepRow I w γ (splice cells off x.cells) (u.cells.zipIdx.foldl (fun cs x => cs.setIfInBounds (off + x.2) x.1) c) := by
          have e : u.cells.zipIdx.foldl (fun (cs : Array Value) (x : Value × Nat) => cs.setIfInBounds (off + x.2) x.1) c =
              (u.cells.toList.zipIdx 0).foldl (fun (cs : Array Value) (x : Value × Nat) => cs.setIfInBounds (off + x.2) x.1) c := by
            rw [← Array.foldl_toList, Array.toList_zipIdx]
          refine ⟨by rw [splice_len (by omega), e, f1]; exact hrow.1, fun j y hj => ?_⟩
          rw [splice_get (by omega)] at hj
          rw [e, f2]
          by_cases hin : off ≤ j ∧ j < off + x.cells.length
          · rw [if_pos hin] at hj
            obtain ⟨z, hz, hrz⟩ := h3 _ _ hj
            refine ⟨z, ?_, hrz⟩
            rw [if_pos (by simp; rw [h1]; omega)]
            simpa using hz
          · rw [if_neg hin] at hj
            obtain ⟨z, hz, hrz⟩ := hrow.2 _ _ hj
            exact ⟨z, by rw [if_neg (by simp; rw [h1]; omega)]; exact hz, hrz⟩
        obtain ⟨c', hc', hrr⟩ := fill_rep hpl parts parts' _ _ r (by simpa using hl) (fun k i x i' u h1 h2 => hp (k + 1) i x i' u h1 h2) hrow' h
        refine ⟨c', ?_, hrr⟩
        simp only [Instr.fill, hpl _ _ hpi]
        rw [if_neg (by simp; rw [h1, hlen]; refine ⟨rfl, ?_⟩; rw [← hrow.1]; exact hle)]
        exact hc'
      · cases h
theorem run_places (fs : List Field) (hall : fs.all (fun f => (sizeT P f.type).isSome) = true) (w : World) :
    (fs.mapM fun f => (do pure (f.offset, ← sizeOf f.type) : Sem (Nat × Nat))).run P w = .ok (fs.map fun f => (f.offset, (sizeT P f.type).getD 0)) w := by
  induction fs with
  | nil => rfl
  | cons f fs ih =>
    simp only [List.all_cons, Bool.and_eq_true] at hall
    obtain ⟨n, hn⟩ := Option.isSome_iff_exists.1 hall.1
    rw [List.mapM_cons]
    simp only [Sem.run_bind, run_sizeT hn, Result.andThen_ok, Sem.run_pure, ih hall.2, List.map_cons, hn, Option.getD_some]
section
variable (hS : Sim C γ I τ H a.tmps w)
include hS
theorem parts_rep (parts : Array (Nat × Operand)) (k : Nat) (i : Nat) (x : V) (i' : Nat) (u : Value) (h1 : (parts.toList.map fun p => (p.1, opd τ p.2))[k]? = some (i, x))
    (h2 : ((parts.map fun p => (p.1, a.eval p.2)).toList)[k]? = some (i', u)) : i = i' ∧ Rep I w γ x u := by
  simp at h1 h2
  obtain ⟨q, y, hq, rfl, rfl⟩ := h1
  obtain ⟨q', y', hq', rfl, rfl⟩ := h2
  rw [hq] at hq'
  cases hq'
  exact ⟨rfl, rep_opd hS y⟩
omit hS in
theorem zero_row {z : Value} : RepRow I w γ (V.ofV z).cells z.cells :=
  ⟨ofV_len z, fun j x hj => ofV_cells z j x (ofV_len z).symm hj⟩
theorem lands_build {t : TypeId} {parts : Array (Nat × Operand)} (ho : o.op = .build t parts) (h : evBuild P t (parts.toList.map fun p => (p.1, opd τ p.2)) = some v) :
    Lands C P o a w τ H v := by
  unfold evBuild at h
  cases hz : zeroT P t with
  | none => simp [hz] at h
  | some z =>
    simp only [hz, Option.bind_some] at h
    have fin : ∀ {c' : Array Value} {r : List V}, (Instr.build t (parts.map fun p => (p.1, a.eval p.2))).run P w = .ok (.agg c') w → RepRow I w γ r c' → Lands C P o a w τ H (.agg r) := by
      intro c' r hrun hrow
      refine lands_value (u := .agg c') (w' := w) ?_ hS (.agg _ _ _ hrow.1 fun j x u hj hu => ?_)
      · simp [execOp, ho, hrun]
      · obtain ⟨u', hu', hr⟩ := hrow.2 j x hj
        rw [hu] at hu'
        cases hu'
        exact hr
    split at h
    · rename_i fs hfs
      split at h
      · rename_i hall
        simp at h
        obtain ⟨r, hr, rfl⟩ := h
        obtain ⟨c', hc', hrow⟩ := fill_rep (I := I) (w := w) (γ := γ) (place' := fun i => ((fs.toList.map fun f => (f.offset, (sizeT P f.type).getD 0)).toArray)[i]?) (fun i p hp => by
            cases hf : fs[i]? with
            | none => simp [hf] at hp
            | some f =>
              cases hn : sizeT P f.type with
              | none => simp [hf, hn] at hp
              | some n => simp [hf, hn] at hp; subst hp; simp [hf, hn])
          _ (parts.map fun p => (p.1, a.eval p.2)).toList _ _ r (by simp) (fun k i x i' u h1 h2 => parts_rep hS parts k i x i' u h1 h2) (zero_row (z := z)) hr
        refine fin ?_ hrow
        have hm := run_places fs.toList hall w
        simp only [Instr.build, Sem.run_bind, run_zeroT hz, Result.andThen_ok, run_underlying hfs]
        rw [Array.mapM_eq_mapM_toList]
        simp only [Functor.map, Sem.run_bind', hm, Result.andThen_ok]
        simp at hc'
        simp [hc']
      · cases h
    · rename_i n e hfs
      cases hs : sizeT P e with
      | none => simp [hs] at h
      | some m =>
        simp only [hs, Option.bind_some, Option.map_eq_some_iff] at h
        obtain ⟨r, hr, rfl⟩ := h
        obtain ⟨c', hc', hrow⟩ := fill_rep (I := I) (w := w) (γ := γ) (place' := fun i => some (i * m, m)) (fun i p hp => hp)
          _ (parts.map fun p => (p.1, a.eval p.2)).toList _ _ r (by simp) (fun k i x i' u h1 h2 => parts_rep hS parts k i x i' u h1 h2) (zero_row (z := z)) hr
        refine fin ?_ hrow
        simp at hc'
        simp [Instr.build, run_zeroT hz, run_underlying hfs, run_sizeT hs, hc']
    · cases h
omit hS in
theorem chunks_cells (ag : Bool) (sz : Nat) (hsz : 0 < sz) (hag : ag = false → sz = 1) : ∀ (n : Nat) (cells : List V), cells.length = n * sz → (∀ c ∈ cells, ag = false → c.cells = [c]) →
    (∀ e ∈ chunks ag sz cells n, e.cells.length = sz) ∧ ∀ (i j : Nat) (e x : V), (chunks ag sz cells n)[i]? = some e → e.cells[j]? = some x → cells[i * sz + j]? = some x
  | 0, _, _, _ => by simp [chunks]
  | n + 1, cells, hl, hc => by
    have hl' : (cells.drop sz).length = n * sz := by
      simp
      rw [hl, Nat.add_mul]
      omega
    obtain ⟨i1, i2⟩ := chunks_cells ag sz hsz hag n (cells.drop sz) hl' (fun c hcm => hc c (List.mem_of_mem_drop hcm))
    have hge : sz ≤ cells.length := by rw [hl, Nat.add_mul]; omega
    have first : ((if ag = true then V.agg (cells.take sz) else cells.headD .any).cells.length = sz) ∧
        ∀ (j : Nat) (x : V), (if ag = true then V.agg (cells.take sz) else cells.headD .any).cells[j]? = some x → cells[j]? = some x := by
      cases ag with
      | true =>
        simp only [if_true, V.cells]
        refine ⟨by simp; omega, fun j x hx => ?_⟩
        rw [List.getElem?_take] at hx
        split at hx
        · exact hx
        · cases hx
      | false =>
        have h1 := hag rfl
        subst h1
        cases cells with
        | nil => simp at hge
        | cons c cs =>
          have hcc := hc c (by simp) rfl
          simp only [Bool.false_eq_true, if_false, List.headD_cons, hcc]
          refine ⟨rfl, fun j x hx => ?_⟩
          cases j with
          | zero => simpa using hx
          | succ j => simp at hx
    simp only [chunks]
    refine ⟨fun e he => ?_, fun i j e x he hx => ?_⟩
    · rcases List.mem_cons.1 he with rfl | he
      · exact first.1
      · exact i1 e he
    · cases i with
      | zero =>
        simp only [List.getElem?_cons_zero, Option.some.injEq] at he
        subst he
        simpa using first.2 j x hx
      | succ i =>
        have := i2 i j e x (by simpa using he) hx
        rw [List.getElem?_drop] at this
        rw [← this]
        congr 1
        rw [Nat.add_mul]
        omega
omit hS in
theorem cellOk_cells {c : V} (h : c.cellOk = true) : c.cells = [c] := by
  cases c <;> first | rfl | (simp [V.cellOk] at h)
omit hS in
theorem zeros_len (z : Value) (n : Nat) : (zeros z n).length = n * z.cells.size := by
  induction n with
  | zero => simp [zeros]
  | succ n ih => simp [zeros, ih, ofV_len, Nat.add_mul]; omega
omit hS in
theorem zeros_row (z : Value) (hz : 0 < z.cells.size) (n : Nat) : RepRow I w γ (zeros z n) ((Array.range (n * z.cells.size)).map (z.cells[· % z.cells.size]!)) := by
  refine ⟨by simp [zeros_len], ?_⟩
  have key : ∀ (n j : Nat) (x : V), (zeros z n)[j]? = some x → j < n * z.cells.size ∧ (V.ofV z).cells[j % z.cells.size]? = some x := by
    intro n
    induction n with
    | zero => intro j x h; simp [zeros] at h
    | succ n ih =>
      intro j x h
      simp only [zeros] at h
      by_cases hj : j < z.cells.size
      · rw [List.getElem?_append_left (by rw [ofV_len]; exact hj)] at h
        exact ⟨by rw [Nat.add_mul]; omega, by rw [Nat.mod_eq_of_lt hj]; exact h⟩
      · rw [List.getElem?_append_right (by rw [ofV_len]; omega), ofV_len] at h
        obtain ⟨h1, h2⟩ := ih _ _ h
        refine ⟨by rw [Nat.add_mul]; omega, ?_⟩
        rw [Nat.mod_eq_sub_mod (by omega)]
        exact h2
  intro j x hj
  obtain ⟨h1, h2⟩ := key n j x hj
  obtain ⟨u, hu, hr⟩ := ofV_cells (I := I) (w := w) (γ := γ) z _ x (ofV_len z).symm h2
  have hlt : j % z.cells.size < z.cells.size := Nat.mod_lt _ hz
  refine ⟨u, ?_, hr⟩
  simp [h1, getElem!_def, hu]
theorem lands_buildSlice {t : TypeId} {len : Nat} {parts : Array (Nat × Operand)} (ho : o.op = .buildSlice t len parts) {nid : Nat} {H0 : Heap} {δ : List (Nat × Obj)} (hH0 : H0 nid = .unborn → H nid = .unborn)
    {vs : List (Nat × V)} (hvl : vs.length = parts.size) (hvs : ∀ (k i : Nat) (x : V) (i' : Nat) (u : Value), vs[k]? = some (i, x) → ((parts.map fun p => (p.1, a.eval p.2)).toList)[k]? = some (i', u) → i = i' ∧ Rep I w γ x u)
    (h : evBuildSlice P nid H0 t len vs = some (v, δ)) : Lands C P o a w τ (putH H δ) v := by
  unfold evBuildSlice at h
  split at h
  · rename_i et h0 het
    split at h
    · rename_i sz z hsz hz
      split at h
      · rename_i hc
        obtain ⟨hzs, hpos, hle⟩ := hc
        cases hf : fillV (fun i => some (i * sz, sz)) (zeros z len) vs with
        | none => simp [hf] at h
        | some cs =>
          simp only [hf, Option.bind_some] at h
          split at h
          · rename_i hcell
            simp at h
            obtain ⟨rfl, rfl⟩ := h
            rw [putH_one]
            obtain ⟨c', hc', hrow⟩ := fill_rep (I := I) (w := w) (γ := γ) (place' := fun i => some (i * sz, sz)) (fun i p hp => hp)
              _ (parts.map fun p => (p.1, a.eval p.2)).toList _ _ cs (by simp [hvl]) hvs (zeros_row z (by omega) len) hf
            have hut : P.underlying t = some (.slice et) := by
              unfold elemT at het
              split at het
              · rename_i e he; cases het; exact he
              · cases het
            have hcs : cs.length = len * sz := by
              have : ∀ (pl : Nat → Option (Nat × Nat)) (parts : List (Nat × V)) (x y : List V), fillV pl x parts = some y → y.length = x.length := by
                intro pl parts
                induction parts with
                | nil => intro x y h; simp [fillV] at h; rw [h]
                | cons p ps ih =>
                  intro x y h
                  obtain ⟨i, u⟩ := p
                  simp only [fillV] at h
                  split at h
                  · cases h
                  · split at h
                    · rename_i hh
                      rw [ih _ _ h, splice_len (by omega)]
                    · cases h
              rw [this _ _ _ _ hf, zeros_len, hzs]
            have hag : aggT P et = false → sz = 1 ∧ cs.all V.cellOk = true := fun e => by
              rcases hcell with hh | hh
              · rw [hh] at e; cases e
              · exact hh
            obtain ⟨k1, k2⟩ := chunks_cells (aggT P et) sz hpos (fun e => (hag e).1) len cs hcs (fun c hcm e => cellOk_cells (by
              have := (hag e).2
              rw [List.all_eq_true] at this
              exact this c hcm))
            have hb := hS.born (nid := nid) (sz := sz) (es := chunks (aggT P et) sz cs len) (c := c') (t := et) (hH0 h0) k1 (fun i j e x he hx => hrow.2 _ _ (k2 i j e x he hx))
            refine lands_value (u := .slice (some ⟨w.heap.size, 0, none⟩) len len) ?_ hb.1 ?_
            · have h24 : ¬ (16777216 < len * sz) := by omega
              rw [hzs] at hc'
              simp at hc'
              by_cases hl0 : len = 0
              · subst hl0
                simp [Array.range_zero'] at hc'
                simp [execOp, ho, Instr.buildSlice, run_underlying hut, run_sizeT hsz, hc', newRow, Array.range_zero']
              · have hne : len * sz ≠ 0 := Nat.mul_ne_zero hl0 (by omega)
                simp [execOp, ho, Instr.buildSlice, run_underlying hut, run_sizeT hsz, h24, hne, run_zeroT hz, hzs, hc', newRow]
            · have := Rep.own (I := I) (w := w.alloc (.cells c' et)) (updP γ nid ⟨w.heap.size, 0, sz⟩) nid 0 len len ⟨w.heap.size, 0, sz⟩ c' et (0, 0) (by simp [updP]) (Nat.le_refl _) hb.2 (by
                have := hrow.1
                simp
                omega)
              simpa using this
          · cases h
      · cases h
    · cases h
  · cases h
theorem lands_makeSlice {t : TypeId} {x y : Operand} (ho : o.op = .makeSlice t x y) {nid : Nat} {ids : List Nat} {δ : List (Nat × Obj)}
    (h : evMakeSlice P nid (only ids H) t (opd τ x) (opd τ y) = some (v, δ)) : Lands C P o a w τ (putH H δ) v := by
  unfold evMakeSlice at h
  split at h
  · rename_i l c et h0 hl hc het
    split at h
    · rename_i i z hi hz
      split at h
      · rename_i hcond
        obtain ⟨hzs, hpos, hl0, hlc, hcb, hby⟩ := hcond
        simp only [Option.some.injEq, Prod.mk.injEq] at h
        obtain ⟨rfl, rfl⟩ := h
        rw [putH_one]
        have hx := rep_opd hS x
        have hy := rep_opd hS y
        rw [hl] at hx
        rw [hc] at hy
        have hx' := hx.sc_eq
        have hy' := hy.sc_eq
        have hut : P.underlying t = some (.slice et) := by
          unfold elemT at het
          split at het
          · rename_i e he; cases het; exact he
          · cases het
        have hz' : i.zero = some z := by simpa [zeroT, hi] using hz
        have hrun := run_make (P := P) w t et i z hut hi hz' .i64 .i64 l c hl0 hlc (by
          have h1 : (c.toNat : Int) = c := by omega
          have h2 := Int.ofNat_le.2 hby
          rw [Int.natCast_mul, h1] at h2
          exact h2) (by omega)
        have hcells : ∀ (k j : Nat) (e x : V), (List.replicate l.toNat (V.ofV z))[k]? = some e → e.cells[j]? = some x → ∃ u, (madeCells z.cells (c.toNat * i.size))[k * i.size + j]? = some u ∧ Rep I w γ x u := by
          intro k j e x he hx
          rw [List.getElem?_replicate] at he
          split at he
          · rename_i hk
            cases he
            have hjl : j < i.size := by
              have := (List.getElem?_eq_some_iff.1 hx).1
              rw [ofV_len, hzs] at this
              exact this
            obtain ⟨u, hu, hr⟩ := ofV_cells (I := I) (w := w) (γ := γ) z j x (ofV_len z).symm hx
            refine ⟨u, ?_, hr⟩
            have hlt : k * i.size + j < c.toNat * i.size := by
              have h1 : k + 1 ≤ c.toNat := by omega
              have h2 := Nat.mul_le_mul_right i.size h1
              rw [Nat.add_mul] at h2
              omega
            have hmod : (k * i.size + j) % i.size = j := by rw [Nat.mul_comm, Nat.mul_add_mod, Nat.mod_eq_of_lt hjl]
            simp [madeCells, hlt, hzs, hmod, getElem!_def, hu]
          · cases he
        have hb := hS.born (nid := nid) (sz := i.size) (es := List.replicate l.toNat (V.ofV z)) (c := madeCells z.cells (c.toNat * i.size)) (t := et) (only_unborn h0)
          (fun e he => by rw [(List.mem_replicate.1 he).2, ofV_len, hzs]) hcells
        refine lands_value (u := .slice (some ⟨w.heap.size, 0, none⟩) l.toNat c.toNat) ?_ hb.1 ?_
        · simp only [execOp, ho, hx', hy', Sem.run_bind, hrun, Result.andThen_ok, Sem.run_pure]
        · have := Rep.own (I := I) (w := w.alloc (.cells (madeCells z.cells (c.toNat * i.size)) et)) (updP γ nid ⟨w.heap.size, 0, i.size⟩) nid 0 l.toNat c.toNat ⟨w.heap.size, 0, i.size⟩ _ et (0, 0) (by simp [updP]) (by omega) hb.2 (by
            simp [size_madeCells])
          simpa using this
      · cases h
    · cases h
  · cases h
end
end Go.Idl
namespace Go.Idl
set_option linter.all false
open Go.RowKit
variable [Laid]
variable {P : Program} {C : Ctx} {γ : Places} {I : Imm} {τ : Nat → V} {H : Heap} {w : World} {a : Act} {o : Oper} {v : V} {tm : Array Value}
theorem Sim.reborn (h : Sim C γ I τ H tm w) {id : Nat} (hg : γ id = none) (sz : Nat) (mu : Bool) : Sim C γ I τ (updH H id (.live sz [] mu)) tm w where
  below := h.below
  imm0 := h.imm0
  immB := h.immB
  immS := h.immS
  tmp := h.tmp
  kept := h.kept
  dom := fun x q hq => by
    have := h.dom x q hq
    refine ⟨?_, this.2⟩
    unfold updH
    by_cases e : x = id
    · simp [e]
    · simp [e]; exact this.1
  obj := fun x sz' es' mu' hl => by
    unfold updH at hl
    by_cases e : x = id
    · subst e
      simp at hl
      obtain ⟨rfl, rfl, rfl⟩ := hl
      exact .inl ⟨rfl, hg⟩
    · simp [e] at hl; exact h.obj x sz' es' mu' hl
  ext := fun x y hx => by
    unfold updH at hx
    by_cases e : x = id
    · simp [e] at hx
    · simp [e] at hx; exact h.ext x y hx
  inj := fun x y q q' h1 h2 hq hq' hblk => by
    unfold updH at h1 h2
    by_cases e : x = id
    · subst e; rw [hg] at hq; cases hq
    · by_cases e' : y = id
      · subst e'; rw [hg] at hq'; cases hq'
      · simp [e] at h1; simp [e'] at h2
        exact h.inj x y q q' h1 h2 hq hq' hblk
theorem Sim.freezeOne (h : Sim C γ I τ H tm w) {id sz : Nat} {es : List V} (hl : H id = .live sz es true) (hf : es.all V.isF = true) :
    ∃ I', (∀ g x, I g x → I' g x) ∧ Sim C γ I' τ (updH H id (.live sz es false)) tm w := by
  rcases h.obj id sz es true hl with ⟨rfl, hg⟩ | ⟨p, c, t, ho⟩
  · exact ⟨I, fun _ _ h => h, h.reborn hg sz false⟩
  · have hlive : (H id).isLive := by rw [hl]; trivial
    have hidle := h.idle hlive ho.place
    have hd := h.dom id p ho.place
    have k1 := (h.kill id).fixCells (I' := fun g x => I g x ∨ (g = p.blk ∧ p.off ≤ x ∧ x < p.off + es.length * sz)) (fun _ _ h => .inl h)
      (fun g x hx => by
        rcases hx with hx | ⟨rfl, _, _⟩
        · exact .inl hx
        · exact .inr ⟨hd.2.1, hd.2.2, hidle⟩)
    refine ⟨fun g x => I g x ∨ (g = p.blk ∧ p.off ≤ x ∧ x < p.off + es.length * sz), fun _ _ h => .inl h, ?_⟩
    have hr : Pres I w w := Pres.refl I w
    have k2 := k1.revive (id := id) (sz := sz) (es := es) (mu := false) (p := p) (c := c) (t := t) (by rw [updH_updH]; exact hidle)
      ⟨ho.place, ho.size, ho.blk, ho.len, fun i j e x he hx => (ho.cell i j e x he hx).imp fun u hu => ⟨hu.1, hu.2.mono hr (fun _ _ h => .inl h) fun _ _ h => h⟩, by simp, fun _ => ⟨fun y hy => by
        rcases hy with hy | ⟨_, _, hy⟩
        · exact absurd hy (ho.mutb rfl y)
        · exact hy, fun i j hi hj => .inr ⟨rfl, by omega, by
          have h1 : i + 1 ≤ es.length := hi
          have h2 := Nat.mul_le_mul_right sz h1
          rw [Nat.add_mul] at h2
          omega⟩, hf⟩, ho.quiet⟩
    rw [updH_updH] at k2
    exact k2
theorem putH_cons (H : Heap) (id : Nat) (x : Obj) (δ : List (Nat × Obj)) : putH H ((id, x) :: δ) = putH (updH H id x) δ := rfl
theorem Sim.froze (h : Heap) (ids : List Nat) : ∀ {I : Imm} {H : Heap}, Sim C γ I τ H tm w → (∀ id sz es, h id = .live sz es true → ∃ mu, H id = .live sz es mu) →
    (∃ I', (∀ g x, I g x → I' g x) ∧ Sim C γ I' τ (putH H (froze h ids)) tm w) ∧
    ∀ id sz es mu, H id = .live sz es mu → (mu = false ∨ (id ∈ ids ∧ h id = .live sz es true ∧ es.all V.isF = true)) → (putH H (Idl.froze h ids)) id = .live sz es false := by
  induction ids with
  | nil =>
    intro I H hS _
    refine ⟨⟨I, fun _ _ h => h, hS⟩, fun id sz es mu hl hm => ?_⟩
    rcases hm with rfl | ⟨hm, _⟩
    · exact hl
    · cases hm
  | cons x ids ih =>
    intro I H hS hh
    by_cases hx : ∃ sz es, h x = .live sz es true ∧ es.all V.isF = true
    · obtain ⟨sz, es, hx, hf⟩ := hx
      have e : Idl.froze h (x :: ids) = (x, .live sz es false) :: Idl.froze h ids := by
        unfold Idl.froze
        rw [List.filterMap_cons_some (b := (x, .live sz es false)) (by rw [hx]; simp only [hf, if_true])]
      rw [e, putH_cons]
      obtain ⟨mu, hmu⟩ := hh x sz es hx
      obtain ⟨I1, hI1, hS1⟩ : ∃ I', (∀ g x, I g x → I' g x) ∧ Sim C γ I' τ (updH H x (.live sz es false)) tm w := by
        cases mu with
        | true => exact hS.freezeOne hmu hf
        | false =>
          refine ⟨I, fun _ _ h => h, ?_⟩
          have : updH H x (.live sz es false) = H := by
            funext y
            unfold updH
            by_cases e : y = x
            · subst e; simp [hmu]
            · simp [e]
          rw [this]
          exact hS
      have hh1 : ∀ id sz' es', h id = .live sz' es' true → ∃ mu, updH H x (.live sz es false) id = .live sz' es' mu := by
        intro id sz' es' hid
        by_cases e : id = x
        · subst e
          rw [hx] at hid
          cases hid
          exact ⟨false, updH_same _ _ _⟩
        · rw [updH_ne e]; exact hh id sz' es' hid
      obtain ⟨⟨I2, hI2, hS2⟩, hlast⟩ := ih hS1 hh1
      refine ⟨⟨I2, fun g y hy => hI2 _ _ (hI1 _ _ hy), hS2⟩, fun id sz' es' mu' hl hm => ?_⟩
      by_cases e : id = x
      · subst e
        rw [hmu] at hl
        cases hl
        exact hlast id sz es false (updH_same _ _ _) (.inl rfl)
      · refine hlast id sz' es' mu' (by rw [updH_ne e]; exact hl) ?_
        rcases hm with hm | ⟨hm, h2⟩
        · exact .inl hm
        · refine .inr ⟨?_, h2⟩
          rcases List.mem_cons.1 hm with hm | hm
          · exact absurd hm e
          · exact hm
    · have e : Idl.froze h (x :: ids) = Idl.froze h ids := by
        unfold Idl.froze
        rw [List.filterMap_cons]
        split
        · rfl
        · rename_i b hb
          split at hb
          · rename_i sz es hlx
            split at hb
            · rename_i hf
              exact absurd ⟨sz, es, hlx, hf⟩ hx
            · cases hb
          · cases hb
      rw [e]
      obtain ⟨h1, h2⟩ := ih hS hh
      refine ⟨h1, fun id sz es mu hl hm => h2 id sz es mu hl ?_⟩
      rcases hm with hm | ⟨hm, h3⟩
      · exact .inl hm
      · rcases List.mem_cons.1 hm with hm | hm
        · subst hm
          exact absurd ⟨sz, es, h3⟩ hx
        · exact .inr ⟨hm, h3⟩
theorem own_frozen (hS : Sim C γ I τ H tm w) {id off len sz : Nat} {es : List V} (hl : H id = .live sz es false) (hle : off + len ≤ es.length) {u : Value} (hr : Rep I w γ (.own id off len) u) :
    Rep I w noPlaces (.slice sz ((es.drop off).take len)) u := by
  cases hr with
  | own0 _ _ _ A => simp; exact .nilslice _ _ _ _
  | own _ _ _ _ cap p c t m hp hcap hb hroom =>
    rcases hS.obj id sz es false hl with ⟨_, hg⟩ | ⟨q, c', t', ho⟩
    · rw [hg] at hp; cases hp
    · rw [ho.place] at hp
      cases hp
      have hlen : ((es.drop off).take len).length = len := by simp; omega
      obtain ⟨f1, f2, f3⟩ := ho.fix rfl
      have key := Rep.slice (I := I) (w := w) noPlaces sz ((es.drop off).take len) p.blk (p.off + off * p.sz) cap (fun i j => (c'[p.off + (off + i) * sz + j]?).getD undef) (by omega)
        (fun e he => ho.len e (List.mem_of_mem_drop (List.mem_of_mem_take he)))
        (fun i j hi hj => by
          rw [hlen] at hi
          have hio : off + i < es.length := by omega
          have hjl : j < (es[off + i]).cells.length := by rw [ho.len _ (List.getElem_mem hio)]; exact hj
          have hcell := ho.cell (off + i) j es[off + i] (es[off + i]).cells[j] (List.getElem?_eq_getElem hio) (List.getElem?_eq_getElem hjl)
          obtain ⟨y, hy, _⟩ := hcell
          have e : p.off + off * p.sz + i * sz + j = p.off + (off + i) * sz + j := by rw [ho.size, Nat.add_mul]; omega
          rw [e]
          refine ⟨f2 _ _ hio hj, ?_⟩
          rw [cell_blk ho.blk, hy]
          rfl)
        (fun i j e x he hx => by
          rw [List.getElem?_take] at he
          split at he
          · rw [List.getElem?_drop] at he
            obtain ⟨y, hy, hr⟩ := ho.cell _ _ _ _ he hx
            simp only [hy, Option.getD_some]
            refine hr.frozen (isF_cell ?_ hx)
            rw [List.all_eq_true] at f3
            exact f3 e (List.mem_of_getElem? he)
          · cases he)
      rw [hlen] at key
      exact key
theorem rep_noRef {I : Imm} {w : World} {γ : Places} {v : V} {u : Value} (h : Rep I w γ v u) : Rep I w γ (noRef v) u := by
  cases v with
  | ref => exact .any _ _
  | _ => exact h
theorem freezeC_rep (hS : Sim C γ I τ H tm w) {h : Heap} (hh : ∀ id sz es mu, h id = .live sz es mu → es.all V.isF = true → H id = .live sz es false) {x y : V} {u : Value}
    (hf : freezeC h x = some y) (hr : Rep I w γ x u) : Rep I w noPlaces y u := by
  cases x with
  | own id off len =>
    simp only [freezeC] at hf
    split at hf
    · rename_i sz es mu hl
      split at hf
      · rename_i hc
        cases hf
        exact own_frozen hS (hh id sz es mu hl hc.2) hc.1 hr
      · cases hf
    · cases hf
  | any => simp [freezeC] at hf; subst hf; exact .any _ _
  | sc => simp [freezeC] at hf; subst hf; cases hr; exact .sc _ _
  | slice =>
    simp [freezeC] at hf; subst hf
    cases hr with
    | nilslice => exact .nilslice _ _ _ _
    | slice _ _ _ _ _ _ f h1 h2 h3 h4 => exact .slice _ _ _ _ _ _ f h1 h2 h3 h4
  | elem =>
    simp [freezeC] at hf; subst hf
    cases hr with
    | elem _ _ _ _ _ f h1 h2 => exact .elem _ _ _ _ _ f h1 h2
  | mt => simp [freezeC] at hf; subst hf; cases hr; exact .mt _ _
  | _ => simp [freezeC] at hf
theorem freezeL_get {h : Heap} : ∀ {xs ys : List V}, freezeL h xs = some ys → xs.length = ys.length ∧ ∀ (j : Nat) (y : V), ys[j]? = some y → ∃ x, xs[j]? = some x ∧ freezeC h x = some y
  | [], ys, hf => by simp [freezeL] at hf; subst hf; simp
  | x :: xs, ys, hf => by
    simp only [freezeL] at hf
    split at hf
    · rename_i y ys' h1 h2
      cases hf
      obtain ⟨i1, i2⟩ := freezeL_get h2
      refine ⟨by simp [i1], fun j z hj => ?_⟩
      cases j with
      | zero => simp at hj; subst hj; exact ⟨x, rfl, h1⟩
      | succ j => simpa using i2 j z (by simpa using hj)
    · cases hf
theorem freezes_get {h : Heap} : ∀ {xs ys : List V}, freezes h xs = some ys → xs.length = ys.length ∧ ∀ (j : Nat) (y : V), ys[j]? = some y → ∃ x, xs[j]? = some x ∧ freeze h x = some y
  | [], ys, hf => by simp [freezes] at hf; subst hf; simp
  | x :: xs, ys, hf => by
    simp only [freezes] at hf
    split at hf
    · rename_i y ys' h1 h2
      cases hf
      obtain ⟨i1, i2⟩ := freezes_get h2
      refine ⟨by simp [i1], fun j z hj => ?_⟩
      cases j with
      | zero => simp at hj; subst hj; exact ⟨x, rfl, h1⟩
      | succ j => simpa using i2 j z (by simpa using hj)
    · cases hf
theorem freeze_rep (hS : Sim C γ I τ H tm w) {h : Heap} (hh : ∀ id sz es mu, h id = .live sz es mu → es.all V.isF = true → H id = .live sz es false) {x y : V} {u : Value}
    (hf : freeze h x = some y) (hr : Rep I w γ x u) : Rep I w noPlaces y u := by
  cases x with
  | agg cs =>
    simp only [freeze, Option.map_eq_some_iff] at hf
    obtain ⟨ys, hys, rfl⟩ := hf
    obtain ⟨h1, h2⟩ := freezeL_get hys
    cases hr with
    | agg _ _ vs hl hh' =>
      refine .agg _ _ _ (by omega) fun j c z hc hz => ?_
      obtain ⟨x, hx, hfx⟩ := h2 j c hc
      exact freezeC_rep hS hh hfx (hh' j x z hx hz)
  | _ => exact freezeC_rep hS hh (by simpa only [freeze] using hf) hr
theorem Sim.reviveExt (h : Sim C γ I τ H tm w) {id : Nat} {x : Ext} {p : Place} (hi : Idle γ (updH H id .dead) p.blk) (ho : ExtAt γ I w id x p) : Sim C γ I τ (updH H id (.ext x)) tm w where
  below := h.below
  imm0 := h.imm0
  immB := h.immB
  immS := h.immS
  tmp := h.tmp
  kept := h.kept
  dom := fun y q hq => by
    have := h.dom y q hq
    refine ⟨?_, this.2⟩
    unfold updH
    by_cases e : y = id
    · simp [e]
    · simp [e]; exact this.1
  obj := fun y sz' es' mu' hl => by
    unfold updH at hl
    by_cases e : y = id
    · simp [e] at hl
    · simp [e] at hl; exact h.obj y sz' es' mu' hl
  ext := fun y z hz => by
    unfold updH at hz
    by_cases e : y = id
    · subst e; simp at hz; subst hz; exact ⟨p, ho⟩
    · simp [e] at hz; exact h.ext y z hz
  inj := fun y z q q' h1 h2 hq hq' hblk => by
    have hpl := ho.1
    have live : ∀ z, z ≠ id → (updH H id (.ext x) z).isLive → (updH H id .dead z).isLive := fun z hz hh => by
      unfold updH at hh ⊢
      simp [hz] at hh ⊢
      exact hh
    by_cases e : y = id
    · by_cases e' : z = id
      · rw [e, e']
      · subst e
        rw [hpl] at hq
        cases hq
        exact absurd hblk.symm (hi z q' (live z e' h2) hq')
    · by_cases e' : z = id
      · subst e'
        rw [hpl] at hq'
        cases hq'
        exact absurd hblk (hi y q (live y e h1) hq)
      · unfold updH at h1 h2
        simp [e] at h1; simp [e'] at h2
        exact h.inj y z q q' h1 h2 hq hq' hblk
theorem Sim.bornExt (h : Sim C γ I τ H tm w) {nid : Nat} (hn : H nid = .unborn) {x : Ext} {o : Go.Obj} (hx : ∀ γ' w', (∀ id p, γ id = some p → γ' id = some p) → Pres I w w' → ExtRep γ' I w' x o) :
    Sim C (updP γ nid ⟨w.heap.size, 0, 0⟩) I τ (updH H nid (.ext x)) tm (w.alloc o) := by
  have hb : Bel w.heap.size w (w.alloc o) := (Bel.refl _ _).alloc (Nat.le_refl _) _
  have hsize : (w.alloc o).heap.size = w.heap.size + 1 := by
    show (w.heap.push _).size = _
    simp
  have hnew : (w.alloc o).heap[w.heap.size]? = some o := by
    show (w.heap.push _)[w.heap.size]? = _
    simp
  have k1 := h.grow hb (I' := I) (fun _ _ h => h) fun _ _ h => .inl h
  have k2 := k1.place hn (p := ⟨w.heap.size, 0, 0⟩) h.below.size (by simp [hsize])
  have hγn : γ nid = none := by
    rcases hg : γ nid with _ | p
    · rfl
    · exact absurd hn (h.dom nid p hg).1
  have hγ : ∀ id q, γ id = some q → updP γ nid ⟨w.heap.size, 0, 0⟩ id = some q := fun id q hp => by
    unfold updP
    by_cases e : id = nid
    · subst e; rw [hγn] at hp; cases hp
    · simp [e, hp]
  have hp : Pres I w (w.alloc o) := ⟨fun g x hx => hb.cell (p := ⟨g, x, none⟩) (h.immS g x hx), fun g c t m hg => by
    refine ⟨c, ?_, rfl⟩
    rw [hb.block g ?_]
    · exact hg
    · rcases Nat.lt_or_ge g w.heap.size with hlt | hge
      · exact hlt
      · rw [Array.getElem?_eq_none hge] at hg; simp at hg, fun g es n hx hg => (hb.block g (h.immS g 0 hx)).trans hg⟩
  have k3 := k2.reviveExt (id := nid) (x := x) (p := ⟨w.heap.size, 0, 0⟩) (by
    intro y q hy hq hblk
    rw [updH_updH] at hy
    by_cases e : y = nid
    · subst e; rw [updH_same] at hy; exact hy
    · unfold updP at hq
      simp [e] at hq
      have := (h.dom y q hq).2.2
      simp at hblk
      omega) ⟨by simp [updP], ⟨rfl, fun y hy => by have := h.immS _ _ hy; simp at this⟩, o, hnew, hx _ _ hγ hp⟩
  rw [updH_updH] at k3
  exact k3
theorem Sim.setExt (h : Sim C γ I τ H tm w) {id : Nat} {x x' : Ext} (hl : H id = .ext x) {p : Place} (hat : ExtAt γ I w id x p) {o : Go.Obj}
    (hc : ∀ c t m, w.heap[p.blk]? ≠ some (.cells c t m)) (hx : ∀ w', Pres I w w' → ExtRep γ I w' x' o) :
    Sim C γ I τ (updH H id (.ext x')) tm { w with heap := w.heap.setIfInBounds p.blk o } := by
  have hlive : (H id).isLive := by rw [hl]; trivial
  have hidle := h.idle hlive hat.1
  have hd := h.dom id p hat.1
  have hfar : ∀ k, k ≠ p.blk → (w.heap.setIfInBounds p.blk o)[k]? = w.heap[k]? := fun k hk => by rw [Array.getElem?_setIfInBounds_ne (fun e => hk e.symm)]
  have hnew : (w.heap.setIfInBounds p.blk o)[p.blk]? = some o := by simp [hd.2.2]
  have hp : Pres I w { w with heap := w.heap.setIfInBounds p.blk o } := ⟨fun g y hy => by
      by_cases e : g = p.blk
      · subst e; exact absurd hy (hat.2.1.2 y)
      · simp [World.cell?, hfar g e], fun g c t m hg => by
      by_cases e : g = p.blk
      · subst e; exact absurd hg (hc c t m)
      · exact ⟨c, (hfar g e).trans hg, rfl⟩, fun g es n hy hg => by
      by_cases e : g = p.blk
      · subst e; exact absurd hy (hat.2.1.2 0)
      · exact (hfar g e).trans hg⟩
  have k1 := h.kill id
  have k2 : Sim C γ I τ (updH H id .dead) tm { w with heap := w.heap.setIfInBounds p.blk o } := {
    below := k1.below.trans ⟨rfl, rfl, rfl, by simp, fun k hk => hfar k (by omega), trivial⟩
    imm0 := k1.imm0
    immB := k1.immB
    immS := fun g y hy => by simpa using k1.immS g y hy
    tmp := fun t => (k1.tmp t).mono hp (fun _ _ h => h) fun _ _ h => h
    kept := fun fr hf t => (k1.kept fr hf t).mono hp (fun _ _ h => h) fun _ _ h => h
    dom := fun y q hq => by simpa using k1.dom y q hq
    obj := fun y sz es mu hy => by
      rcases k1.obj y sz es mu hy with h0 | ⟨q, c, t, ho⟩
      · exact .inl h0
      · exact .inr ⟨q, c, t, ho.mono hp (fun _ _ h => h) (fun _ _ h => h) (hfar _ (hidle y q (by rw [hy]; trivial) ho.place)) fun _ h => h⟩
    ext := fun y z hy => (k1.ext y z hy).imp fun q ho => ho.mono hp (fun _ _ h => h) (fun _ _ h => h) (hfar _ (hidle y q (by rw [hy]; trivial) ho.1)) fun _ h => h
    inj := k1.inj }
  have k3 := k2.reviveExt (id := id) (x := x') (p := p) (by rw [updH_updH]; exact hidle) ⟨hat.1, hat.2.1, o, hnew, hx _ hp⟩
  rw [updH_updH] at k3
  exact k3
def Met (P : Program) (Φ : Specs) : Prop := ∀ f F, Φ f = some F → ∃ g, (∀ args w, (callFunc f args).run P w = .ok (.enter g args) w) ∧ Contract P g F
section
variable (hS : Sim C γ I τ H a.tmps w)
include hS
theorem lands_range {t : TypeId} {x : Operand} (ho : o.op = .range t x) (ht : strT P t = true) {s : ByteArray} (hx : opd τ x = .sc (.string s)) {nid : Nat} (hn : H nid = .unborn) :
    Lands C P o a w τ (updH H nid (.ext (.iter s 0))) (.ref nid 0 0) := by
  have hr := rep_opd hS x
  rw [hx] at hr
  have hu := hr.sc_eq
  have hut : P.underlying t = some .string := by
    unfold strT at ht
    split at ht
    · assumption
    · cases ht
  have hb := hS.bornExt hn (x := .iter s 0) (o := .stringIter s 0) (fun _ _ _ _ => rfl)
  refine lands_value (u := .pointer (some ⟨w.heap.size, 0, none⟩)) ?_ hb ?_
  · simp [execOp, ho, Instr.range, run_underlying hut, hu]
  · have := Rep.ref (I := I) (w := w.alloc (.stringIter s 0)) (updP γ nid ⟨w.heap.size, 0, 0⟩) nid 0 0 ⟨w.heap.size, 0, 0⟩ (by simp [updP])
    simpa using this
theorem lands_next {it : Operand} (ho : o.op = .next it true) {id : Nat} (hx : opd τ it = .ref id 0 0) {s : ByteArray} {pos : Nat} (hl : H id = .ext (.iter s pos)) :
    (pos < s.size → Lands C P o a w τ (updH H id (.ext (.iter s (pos + (Utf8.decode s pos).2)))) (.tup [.sc (.bool true), .sc (.int .i64 pos), .sc (.int .i32 (Utf8.decode s pos).1)])) ∧
    (¬ pos < s.size → Lands C P o a w τ H (.tup [.sc (.bool false)])) := by
  have hr := rep_opd hS it
  rw [hx] at hr
  obtain ⟨p, hat⟩ := hS.ext id _ hl
  obtain ⟨h1, ⟨h2, h3⟩, ob, h4, h5⟩ := hat
  have h5' : ob = .stringIter s pos := h5
  subst h5'
  generalize hu : a.eval it = u at hr
  cases hr with
  | ref _ _ _ _ q hq =>
    rw [h1] at hq
    cases hq
    simp only [h2, Nat.zero_mul, Nat.add_zero] at hu
    have three : ∀ (x y z : Value), Rep I ({ w with heap := w.heap.setIfInBounds p.blk (.stringIter s (pos + (Utf8.decode s pos).2)) } : World) γ (.tup [.sc x, .sc y, .sc z]) (.tuple #[x, y, z]) := by
      intro x y z
      refine .tup _ _ _ (by simp) fun j c u hc hu => ?_
      match j with
      | 0 => simp at hc hu; subst hc hu; exact .sc _ _
      | 1 => simp at hc hu; subst hc hu; exact .sc _ _
      | 2 => simp at hc hu; subst hc hu; exact .sc _ _
      | j + 3 => simp at hc
    refine ⟨fun hlt => ?_, fun hge => ?_⟩
    · have hs := hS.setExt hl ⟨h1, ⟨h2, h3⟩, _, h4, rfl⟩ (x' := .iter s (pos + (Utf8.decode s pos).2)) (o := .stringIter s (pos + (Utf8.decode s pos).2)) (by rw [h4]; simp) (fun _ _ => rfl)
      refine lands_value ?_ hs (three _ _ _)
      simp [execOp, ho, Instr.next, hu, getObj, setObj, Sem.run, h4, hlt, goInt]
    · refine lands_value (u := .tuple #[.bool false]) (w' := w) ?_ hS ?_
      · simp [execOp, ho, Instr.next, hu, getObj, Sem.run, h4, hge]
      · refine .tup _ _ _ (by simp) fun j c u hc hu => ?_
        match j with
        | 0 => simp at hc hu; subst hc hu; exact .sc _ _
        | j + 1 => simp at hc
theorem args_froze {h : Heap} {ids : List Nat} (hle : ∀ x sz es mu, h x = .live sz es mu → H x = .live sz es mu) (hin : ∀ x sz es mu, h x = .live sz es mu → x ∈ ids) :
    ∃ I', (∀ g x, I g x → I' g x) ∧ Sim C γ I' τ (putH H (froze h ids)) a.tmps w ∧ ∀ id sz es mu, h id = .live sz es mu → es.all V.isF = true → (putH H (froze h ids)) id = .live sz es false := by
  obtain ⟨⟨I', hI', hS'⟩, hlast⟩ := Sim.froze h ids hS (fun id sz es hl => ⟨true, hle _ _ _ _ hl⟩)
  refine ⟨I', hI', hS', fun id sz es mu hl hf => hlast id sz es mu (hle _ _ _ _ hl) ?_⟩
  cases mu with
  | false => exact .inl rfl
  | true => exact .inr ⟨hin _ _ _ _ hl, hl, hf⟩
theorem lands_call {Φ : Specs} (hΦ : Met P Φ) {c : Call} {f : FuncId} (ho : o.op = .call c) (hc : c.callee = .value (.func f)) {δ : List (Nat × Obj)}
    (h : evCall Φ (opd τ) (only (c.args.toList.flatMap fun x => (opd τ x).ids) H) f c.args.toList = some (v, δ)) : Lands C P o a w τ (putH H δ) v := by
  unfold evCall at h
  cases hF : Φ f with
  | none => simp [hF] at h
  | some F =>
    simp only [hF, Option.bind_some] at h
    cases hfr : freezes (only (c.args.toList.flatMap fun x => (opd τ x).ids) H) ((c.args.toList.map (opd τ)).map noRef) with
    | none => rw [hfr] at h; simp at h
    | some ys =>
      simp only [hfr, Option.bind_some, Option.map_eq_some_iff] at h
      obtain ⟨r, hr, he⟩ := h
      simp only [Prod.mk.injEq] at he
      obtain ⟨rfl, rfl⟩ := he
      obtain ⟨g, hent, hcon⟩ := hΦ f F hF
      obtain ⟨I1, hI1, hS1, hfix⟩ := args_froze hS (h := only (c.args.toList.flatMap fun x => (opd τ x).ids) H) (ids := (c.args.toList.map (opd τ)).flatMap V.ids)
        (fun x sz es mu hl => only_live hl) (fun x sz es mu hl => by
          unfold only at hl
          split at hl
          · rename_i hm
            simp only [List.flatMap_map]
            simpa using hm
          · cases hl)
      obtain ⟨hlen, hget⟩ := freezes_get hfr
      have hcalls := hcon I1 w (c.args.map a.eval) ys r (by simp at hlen ⊢; omega) (fun j x u hx hu => by
          obtain ⟨x0, hx0, hfz⟩ := hget j x hx
          simp at hx0 hu
          obtain ⟨q, hq, rfl⟩ := hx0
          obtain ⟨q', hq', rfl⟩ := hu
          rw [hq] at hq'
          cases hq'
          exact freeze_rep hS1 hfix hfz (rep_noRef (rep_opd hS1 q))) hS1.immS (Laid.keep hS1.below.below C.laid) hr
      intro r K Q hK
      have hrun : (execOp a.eval o).run P w = .ok (.enter g (c.args.map a.eval)) w := by
        simp [execOp, ho, resolve, hc, Act.eval, Deferred.ofValue, invoke, hent]
      refine wpIn_of_run hrun (by simp) (by simp) ⟨rf_depth, calls_rf (hcalls.mono fun e w' hh => ?_)⟩
      obtain ⟨u, rfl, hb, hrep⟩ := hh
      exact hK u w' γ _ (hS1.grow hb (fun _ _ h => .inl h) fun _ _ h => h) (hrep.mono (Pres.refl _ _) (fun _ _ h => h) (by simp [noPlaces]))
omit hS in
theorem putH_append (H : Heap) (d e : List (Nat × Obj)) : putH H (d ++ e) = putH (putH H d) e := by
  induction d generalizing H with
  | nil => rfl
  | cons p d ih => simp only [List.cons_append, putH]; exact ih _
omit hS in
theorem froze_unborn {h H : Heap} (hle : ∀ x sz es mu, h x = .live sz es mu → H x = .live sz es mu) (ids : List Nat) {nid : Nat} (h0 : H nid = .unborn) : putH H (froze h ids) nid = .unborn := by
  have key : ∀ (d : List (Nat × Obj)) (H : Heap), (∀ p ∈ d, p.1 ≠ nid) → H nid = .unborn → putH H d nid = .unborn := by
    intro d
    induction d with
    | nil => intro H _ h; exact h
    | cons p d ih =>
      intro H hd h
      simp only [putH]
      refine ih _ (fun q hq => hd q (List.mem_cons_of_mem _ hq)) ?_
      rw [if_neg (fun e => hd p (List.mem_cons_self ..) e.symm)]
      exact h
  refine key _ H (fun p hp e => ?_) h0
  unfold froze at hp
  obtain ⟨id, _, hid⟩ := List.mem_filterMap.1 hp
  split at hid
  · rename_i sz es hl
    split at hid
    · cases hid
      have := hle _ _ _ _ hl
      simp only at e
      rw [e, h0] at this
      cases this
    · cases hid
  · cases hid
theorem lands_bsl {t : TypeId} {len : Nat} {parts : Array (Nat × Operand)} (ho : o.op = .buildSlice t len parts) {nid : Nat} {δ : List (Nat × Obj)} {ids : List Nat}
    (hids : ids = nid :: (parts.toList.map fun p => (p.1, opd τ p.2)).flatMap fun p => p.2.ids)
    (h : evBsl P nid (only ids H) t len (parts.toList.map fun p => (p.1, opd τ p.2)) = some (v, δ)) : Lands C P o a w τ (putH H δ) v := by
  unfold evBsl at h
  cases hb : evBuildSlice P nid (only ids H) t len ((parts.toList.map fun p => (p.1, opd τ p.2)).map fun p => (p.1, frz1 (only ids H) p.2)) with
  | none => rw [hb] at h; cases h
  | some r =>
    obtain ⟨v', δ'⟩ := r
    rw [hb] at h
    simp only [addD, Option.some.injEq, Prod.mk.injEq] at h
    obtain ⟨rfl, rfl⟩ := h
    have hle : ∀ x sz es mu, only ids H x = .live sz es mu → H x = .live sz es mu := fun x sz es mu hl => only_live hl
    have hun : only ids H nid = .unborn := by
      unfold evBuildSlice at hb
      split at hb
      · rename_i h0 _; exact h0
      · cases hb
    obtain ⟨I1, hI1, hS1, hfix⟩ := args_froze hS (h := only ids H) (ids := (parts.toList.map fun p => (p.1, opd τ p.2)).flatMap fun p => p.2.ids)
      hle (fun x sz es mu hl => by
        have hl' := hl
        unfold only at hl
        split at hl
        · rename_i hm
          rw [hids] at hm
          simp only [List.contains_iff_mem, List.mem_cons] at hm
          rcases hm with rfl | hm
          · rw [hun] at hl'; cases hl'
          · exact hm
        · cases hl)
    rw [putH_append]
    refine lands_buildSlice hS1 ho (H0 := only ids H) (fun h0 => froze_unborn hle _ (only_unborn h0)) (by simp) (fun k i x i' u h1 h2 => ?_) hb
    simp only [List.getElem?_map, Option.map_eq_some_iff, List.map_map] at h1
    obtain ⟨p, hp, he⟩ := h1
    simp only [Function.comp, Prod.mk.injEq] at he
    obtain ⟨rfl, rfl⟩ := he
    obtain ⟨q1, q2⟩ := parts_rep hS1 parts k p.1 (opd τ p.2) i' u (by simp only [List.getElem?_map, hp, Option.map_some]) h2
    refine ⟨q1, ?_⟩
    unfold frz1
    cases hf : freeze (only ids H) (opd τ p.2) with
    | none => exact q2
    | some y => exact (freeze_rep hS1 hfix hf q2).mono (Pres.refl _ _) (fun _ _ h => h) (by simp [noPlaces])
end
end Go.Idl
namespace Go.Idl
set_option linter.all false
open Go.RowKit
variable [Laid]
variable {P : Program} {C : Ctx} {γ : Places} {I : Imm} {τ : Nat → V} {H : Heap} {w : World} {a : Act} {o : Oper} {v : V}
theorem elemT_und {t et : TypeId} (h : elemT P t = some et) : P.underlying t = some (.slice et) := by
  unfold elemT at h
  split at h
  · rename_i e he; cases h; exact he
  · cases h
def BoundIs (x : Option Value) (n : Nat) : Prop := ∃ k i, x = some (.int k i) ∧ 0 ≤ i ∧ i.toNat = n
theorem bound_some {x : Operand} {d n : Nat} (hS : Sim C γ I τ H a.tmps w) (h : bound d (some (opd τ x)) = some n) : BoundIs (some (a.eval x)) n := by
  have hr := rep_opd hS x
  generalize opd τ x = y at h hr
  cases y with
  | sc u =>
    have := hr.sc_eq
    cases u <;> simp [bound] at h
    exact ⟨_, _, by rw [this], h.1, h.2⟩
  | _ => simp [bound] at h
theorem run_sliceBound {x : Value} {n y : Nat} {code : BoundsCode} (h : BoundIs (some x) n) (hle : n ≤ y) : (Instr.sliceBound x y code).run P w = .ok n w := by
  obtain ⟨k, i, he, h0, rfl⟩ := h
  cases he
  have : i ≤ (y : Int) := by omega
  simp [Instr.sliceBound, asIntOf, h0, this]
theorem run_sliceAt {t et : TypeId} {sz : Nat} (ht : P.underlying t = some (.slice et)) (hsz : sizeT P et = some sz) {A : Option Addr} {n cap l r : Nat} {lo hi : Option Value}
    (hlo : lo = none ∧ l = 0 ∨ BoundIs lo l) (hhi : hi = none ∧ r = n ∨ BoundIs hi r) (hlr : l ≤ r) (hrn : r ≤ n) (hnc : n ≤ cap) :
    (Instr.sliceAt t (.slice A n cap) lo hi none).run P w = .ok (.slice (if cap = l then A else A.map (·.add (l * sz))) (r - l) (cap - l)) w := by
  have hb : (Instr.sliceBounds true n cap lo hi none).run P w = .ok (l, r, cap) w := by
    unfold Instr.sliceBounds
    rcases hhi with ⟨rfl, rfl⟩ | hh
    · rcases hlo with ⟨rfl, rfl⟩ | hl
      · simp
      · obtain ⟨k, i, rfl, h0, hi⟩ := hl
        have := run_sliceBound (P := P) (w := w) (y := r) (code := .sliceB) ⟨k, i, rfl, h0, hi⟩ hlr
        simp [this]
    · obtain ⟨k, i, rfl, h0, hi⟩ := hh
      have h1 := run_sliceBound (P := P) (w := w) (y := cap) (code := .sliceAcap) ⟨k, i, rfl, h0, hi⟩ (by omega)
      rcases hlo with ⟨rfl, rfl⟩ | hl
      · simp [h1]
      · obtain ⟨k', i', rfl, h0', hi'⟩ := hl
        have := run_sliceBound (P := P) (w := w) (y := r) (code := .sliceB) ⟨k', i', rfl, h0', hi'⟩ hlr
        simp [h1, this]
  simp [Instr.sliceAt, Instr.slice, run_underlying ht, hb, run_sizeT hsz]
theorem run_sliceAt3 {t et : TypeId} {sz : Nat} (ht : P.underlying t = some (.slice et)) (hsz : sizeT P et = some sz) {A : Option Addr} {n cap l r m : Nat} {lo hi : Option Value} {mx : Value}
    (hlo : lo = none ∧ l = 0 ∨ BoundIs lo l) (hhi : BoundIs hi r) (hmx : BoundIs (some mx) m) (hlr : l ≤ r) (hrm : r ≤ m) (hmn : m ≤ n) (hnc : n ≤ cap) :
    (Instr.sliceAt t (.slice A n cap) lo hi (some mx)).run P w = .ok (.slice (if m = l then A else A.map (·.add (l * sz))) (r - l) (m - l)) w := by
  have hb : (Instr.sliceBounds true n cap lo hi (some mx)).run P w = .ok (l, r, m) w := by
    unfold Instr.sliceBounds
    have h0 := run_sliceBound (P := P) (w := w) (y := cap) (code := .slice3Acap) hmx (by omega)
    obtain ⟨k, i, rfl, hi0, hi⟩ := hhi
    have h1 := run_sliceBound (P := P) (w := w) (y := m) (code := .slice3B) ⟨k, i, rfl, hi0, hi⟩ hrm
    rcases hlo with ⟨rfl, rfl⟩ | hl
    · simp [h0, h1]
    · obtain ⟨k', i', rfl, h0', hi'⟩ := hl
      have := run_sliceBound (P := P) (w := w) (y := r) (code := .slice3C) ⟨k', i', rfl, h0', hi'⟩ hlr
      simp [h0, h1, this]
  simp [Instr.sliceAt, Instr.slice, run_underlying ht, hb, run_sizeT hsz]
theorem part_rep {sz : Nat} {es : List V} {A : Option Addr} {n cap l r m : Nat} (hr : Rep I w γ (.slice sz es) (.slice A n cap)) (hlr : l ≤ r) (hrn : r ≤ n) (hrm : r ≤ m) :
    Rep I w γ (.slice sz ((es.take r).drop l)) (.slice (if m = l then A else A.map (·.add (l * sz))) (r - l) (m - l)) := by
  cases hr with
  | nilslice =>
    have h0 : r - l = 0 := by omega
    simp only [List.take_nil, List.drop_nil, h0]
    exact .nilslice _ _ _ _
  | slice _ _ _ g b _ f hcap hsz hc hh =>
    by_cases he : r = l
    · subst he
      have e : (es.take r).drop r = [] := by simp
      rw [e, Nat.sub_self]
      exact .nilslice _ _ _ _
    · have hlen : ((es.take r).drop l).length = r - l := by simp; omega
      rw [if_neg (by omega), Option.map_some, addr_add, ← hlen]
      refine .slice _ _ _ _ _ _ (fun i j => f (l + i) j) (by omega) (fun e he => hsz e (List.mem_of_mem_take (List.mem_of_mem_drop he))) (fun i j hi hj => ?_) (fun i j e c hec hcc => ?_)
      · have := hc (l + i) j (by omega) hj
        rw [show b + l * sz + i * sz + j = b + (l + i) * sz + j from by rw [Nat.add_mul]; omega]
        exact this
      · rw [List.getElem?_drop, List.getElem?_take] at hec
        split at hec
        · exact hh _ _ _ _ hec hcc
        · cases hec
theorem cap_rep {x : V} {A : Option Addr} {n cap : Nat} (hr : Rep I w γ x (.slice A n cap)) (hx : ∀ u, x ≠ .sc u) (ha : x ≠ .any) : n ≤ cap := by
  cases hr with
  | any => exact absurd rfl ha
  | sc => exact absurd rfl (hx _)
  | nilslice => omega
  | slice => assumption
  | own => assumption
  | own0 => omega
  | mt => omega
section
variable (hS : Sim C γ I τ H a.tmps w)
include hS
theorem lands_slice {t : TypeId} {x : Operand} {lo hi mx : Option Operand} (ho : o.op = .slice t x lo hi mx) {ids : List Nat} {δ : List (Nat × Obj)}
    (hids : ∀ id ∈ (opd τ x).ids, id ∈ ids) (h : evSlice P (only ids H) t (opd τ x) (lo.map (opd τ)) (hi.map (opd τ)) (mx.map (opd τ)) = some (v, δ)) : Lands C P o a w τ (putH H δ) v := by
  unfold evSlice evSliceI at h
  cases het : elemT P t with
  | none => simp [het] at h
  | some et =>
  cases hsz : sizeT P et with
  | none => simp [het, hsz] at h
  | some sz =>
  cases hlen : (opd τ x).len with
  | none => simp [het, hlen] at h
  | some n =>
  cases hl : bound 0 (lo.map (opd τ)) with
  | none => simp [het, hlen, hl] at h
  | some l =>
  cases hr : bound n (hi.map (opd τ)) with
  | none => simp [het, hlen, hl, hr] at h
  | some r =>
  cases hm : bound r (mx.map (opd τ)) with
  | none => simp [het, hlen, hl, hr, hm] at h
  | some m =>
  simp only [het, hsz, hlen, hl, hr, hm, Option.bind_some] at h
  split at h
  · rename_i hc
    obtain ⟨hlr, hrm, hmn⟩ := hc
    have ht := elemT_und het
    obtain ⟨A, cap, hu⟩ := len_rep (rep_opd hS x) hlen
    have hx := rep_opd hS x
    rw [hu] at hx
    have hlo : lo.map a.eval = none ∧ l = 0 ∨ BoundIs (lo.map a.eval) l := by
      cases lo with
      | none => simp [bound] at hl; exact .inl ⟨rfl, hl.symm⟩
      | some y => exact .inr (bound_some hS hl)
    have hhi : hi.map a.eval = none ∧ r = n ∨ BoundIs (hi.map a.eval) r := by
      cases hi with
      | none => simp [bound] at hr; exact .inl ⟨rfl, hr.symm⟩
      | some y => exact .inr (bound_some hS hr)
    cases mx with
    | none =>
      have hmr : m = r := by simpa [bound] using hm.symm
      subst hmr
      simp only [Option.map_none] at h
      have fin : n ≤ cap → ∀ {y : V}, Rep I w γ y (.slice (if cap = l then A else A.map (·.add (l * sz))) (m - l) (cap - l)) → Lands C P o a w τ H y := by
        intro hnc y hy
        refine lands_value (w' := w) ?_ hS hy
        have := run_sliceAt (P := P) (w := w) ht hsz (A := A) hlo hhi hlr hmn hnc
        simp [execOp, ho, hu, this]
      split at h
      · rename_i s es hv
        split at h
        · rename_i hs
          subst hs
          simp only [Option.some.injEq, Prod.mk.injEq] at h
          obtain ⟨rfl, rfl⟩ := h
          rw [hv] at hx
          have hnc := cap_rep hx (by simp) (by simp)
          exact fin hnc (part_rep hx hlr hmn (by omega))
        · cases h
      · rename_i id off ln hv
        split at h
        · rename_i s es mu hl0
          split at h
          · rename_i hs
            subst hs
            simp only [Option.some.injEq, Prod.mk.injEq] at h
            obtain ⟨rfl, rfl⟩ := h
            rw [hv] at hx
            have hnc := cap_rep hx (by simp) (by simp)
            refine fin hnc ?_
            rcases hS.obj id s es mu (only_live hl0) with ⟨_, hg⟩ | ⟨p, c, t', ho'⟩
            · cases hx with
              | own _ _ _ _ _ p _ _ _ hp => rw [hg] at hp; cases hp
              | own0 =>
                have h0 : m - l = 0 := by omega
                have h1 : 0 - l = 0 := by omega
                rw [h0, h1]
                exact .own0 _ _ _ _
            · cases hx with
              | own0 =>
                have h0 : m - l = 0 := by omega
                have h1 : 0 - l = 0 := by omega
                rw [h0, h1]
                exact .own0 _ _ _ _
              | own _ _ _ _ _ q cc tt mm hp hcap hb hroom =>
                rw [ho'.place] at hp
                cases hp
                by_cases hcl : cap = l
                · have h0 : m - l = 0 := by omega
                  have h1 : cap - l = 0 := by omega
                  rw [h0, h1]
                  exact .own0 _ _ _ _
                · rw [if_neg hcl, Option.map_some, addr_add]
                  have e : p.off + off * p.sz + l * s = p.off + (off + l) * p.sz := by rw [ho'.size, Nat.add_mul]; omega
                  rw [e]
                  exact .own _ _ _ _ _ p cc tt mm ho'.place (by omega) hb (by
                    rw [show off + l + (cap - l) = off + cap from by omega]
                    exact hroom)
          · cases h
        · cases h
      · rename_i hv
        simp only [Option.some.injEq, Prod.mk.injEq] at h
        obtain ⟨rfl, rfl⟩ := h
        rw [hv] at hx
        have hnc := cap_rep hx (by simp) (by simp)
        refine fin hnc ?_
        cases hx
        have h0 : m - l = 0 := by omega
        have h1 : 0 - l = 0 := by omega
        rw [h0, h1]
        exact .mt _ _
      · rename_i hv
        simp only [Option.some.injEq, Prod.mk.injEq] at h
        obtain ⟨rfl, rfl⟩ := h
        rw [hv] at hx
        have := hx.sc_eq
        cases this
        refine fin (Nat.le_refl _) ?_
        have h0 : m - l = 0 := by omega
        have h1 : 0 - l = 0 := by omega
        rw [h0, h1]
        exact .mt _ _
      · cases h
    | some mx =>
      simp only [Option.map_some] at h
      have hbm := bound_some hS hm
      have hhi' : BoundIs (hi.map a.eval) r ∨ hi = none := by
        cases hi with
        | none => exact .inr rfl
        | some y => exact .inl (bound_some hS hr)
      split at h
      · cases h
      · rename_i hhn
        have hhi2 : BoundIs (hi.map a.eval) r := by
          rcases hhi' with h1 | h1
          · exact h1
          · subst h1; simp at hhn
        have run3 : n ≤ cap → (execOp a.eval o).run P w = .ok (.value (.slice (if m = l then A else A.map (·.add (l * sz))) (r - l) (m - l))) w := by
          intro hnc
          have := run_sliceAt3 (P := P) (w := w) ht hsz (A := A) hlo hhi2 hbm hlr hrm hmn hnc
          simp [execOp, ho, hu, this]
        have nosc : (∀ u, opd τ x ≠ .sc u) → n ≤ cap := fun hh => cap_rep hx hh (fun e => by rw [e] at hlen; simp [V.len] at hlen)
        split at h
        · rename_i hns
          split at h
          · rename_i hlm
            simp only [Option.some.injEq, Prod.mk.injEq] at h
            obtain ⟨rfl, rfl⟩ := h
            refine lands_value (w' := w) (run3 (nosc ?_)) hS ?_
            · intro u hu'
              rw [hu'] at hns
              cases hns
            · have h0 : r - l = 0 := by omega
              have h1 : m - l = 0 := by omega
              rw [h0, h1]
              exact .mt _ _
          · split at h
            · rename_i s es hv
              split at h
              · rename_i hs
                subst hs
                simp only [Option.some.injEq, Prod.mk.injEq] at h
                obtain ⟨rfl, rfl⟩ := h
                refine lands_value (w' := w) (run3 (nosc (by simp [hv]))) hS ?_
                rw [hv] at hx
                exact part_rep hx hlr (by omega) hrm
              · cases h
            · rename_i id off ln hv
              split at h
              · rename_i s es mu hl0
                split at h
                · rename_i hcc
                  obtain ⟨rfl, hole, hall⟩ := hcc
                  simp only [Option.some.injEq, Prod.mk.injEq] at h
                  obtain ⟨rfl, rfl⟩ := h
                  rw [hv] at hx hlen
                  have hln : ln = n := by simpa [V.len] using hlen
                  subst hln
                  obtain ⟨I1, hI1, hS1, hfix⟩ := args_froze hS (h := fun y => if y = id then only ids H y else .dead) (ids := [id]) (fun y sz es mu hl => by
                      split at hl
                      · exact only_live hl
                      · cases hl) (fun y sz es mu hl => by
                      split at hl
                      · rename_i e; simp [e]
                      · cases hl)
                  have hfz : froze (only ids H) [id] = froze (fun y => if y = id then only ids H y else .dead) [id] := by
                    simp only [froze, List.filterMap_cons, List.filterMap_nil, if_true]
                  have hlive := hfix id s es mu (by simp [hl0]) hall
                  have hx1 : Rep I1 w γ (.own id off ln) (.slice A ln cap) := hx.mono (Pres.refl I w) hI1 fun _ _ h => h
                  have hfrozen := own_frozen hS1 hlive hole hx1
                  have hpart := part_rep (m := m) hfrozen hlr (by omega) hrm
                  rw [hfz]
                  refine lands_value (w' := w) (run3 (nosc (by simp [hv]))) hS1 ?_
                  have e : (es.drop (off + l)).take (r - l) = (((es.drop off).take ln).take r).drop l := by
                    rw [List.take_take, Nat.min_eq_left (by omega), List.drop_take, List.drop_drop]
                  rw [e]
                  exact hpart.mono (Pres.refl _ _) (fun _ _ h => h) (by simp [noPlaces])
                · cases h
              · cases h
            · cases h
        · cases h
  · cases h
end
end Go.Idl
namespace Go.Idl
set_option linter.all false
open Go.RowKit
variable [Laid]
variable {P : Program} {C : Ctx} {γ : Places} {I : Imm} {τ : Nat → V} {H : Heap} {w : World} {a : Act} {o : Oper} {v : V} {tm : Array Value}
structure Src (P : Program) (I : Imm) (w : World) (γ : Places) (sz : Nat) (ys : List V) (x : Value) (nl : List Value) : Prop where
  len : nl.length = ys.length * sz
  cell : ∀ (i j : Nat) (e c : V), ys[i]? = some e → e.cells[j]? = some c → ∃ u, nl[i * sz + j]? = some u ∧ Rep I w γ c u
  count : ∀ w', (Builtin.lenOf x).run P w' = .ok ys.length w'
  first : ∀ w', (∀ p, w'.cell? p = w.cell? p) → (Builtin.firstCells sz ys.length x).run P w' = .ok nl.toArray w'
theorem src_empty {sz : Nat} (A : Option Addr) (cap : Nat) : Src P I w γ sz [] (.slice A 0 cap) [] where
  len := by simp
  cell := by simp
  count := fun w' => by simp [Builtin.lenOf]
  first := fun w' _ => by
    cases A with
    | none => simp [Builtin.firstCells]
    | some ad => simp [Builtin.firstCells, loadCells, loadCellsFrom]
theorem src_row {sz : Nat} {ys : List V} {g b cap : Nat} {f : Nat → Value} (hc : ∀ k, k < ys.length * sz → w.cell? ⟨g, b + k, none⟩ = some (f k))
    (hr : ∀ (i j : Nat) (e c : V), ys[i]? = some e → e.cells[j]? = some c → j < sz ∧ Rep I w γ c (f (i * sz + j))) :
    Src P I w γ sz ys (.slice (some ⟨g, b, none⟩) ys.length cap) ((List.range (ys.length * sz)).map f) where
  len := by simp
  cell := fun i j e c he hcc => by
    obtain ⟨hj, hrr⟩ := hr i j e c he hcc
    have hi : i < ys.length := (List.getElem?_eq_some_iff.1 he).1
    have hlt : i * sz + j < ys.length * sz := by
      have h2 := Nat.mul_le_mul_right sz (show i + 1 ≤ ys.length from hi)
      rw [Nat.add_mul] at h2
      omega
    exact ⟨f (i * sz + j), by simp [hlt], hrr⟩
  count := fun w' => by simp [Builtin.lenOf]
  first := fun w' hw => by
    have := run_loadCells (P := P) w' ⟨g, b, none⟩ (ys.length * sz) f (fun j hj => by rw [addr_add, hw]; exact hc j hj)
    simp [Builtin.firstCells, this]
theorem src_rep (hS : Sim C γ I τ H tm w) {sz : Nat} (hsz : 0 < sz) {ids : List Nat} {x : V} {u : Value} {ys : List V} (hn : news (only ids H) sz x = some ys) (hr : Rep I w γ x u)
    (hlen : ys.all (fun y => y.cells.length = sz) = true) : ∃ nl, Src P I w γ sz ys u nl := by
  rw [List.all_eq_true] at hlen
  have div : ∀ k m, k < m * sz → k / sz < m ∧ k % sz < sz ∧ k / sz * sz + k % sz = k := fun k m hk =>
    ⟨(Nat.div_lt_iff_lt_mul hsz).2 hk, Nat.mod_lt _ hsz, by rw [Nat.mul_comm]; exact Nat.div_add_mod k sz⟩
  cases x with
  | sc y =>
    have := hr.sc_eq
    subst this
    simp only [news] at hn
    split at hn
    · rename_i y' s hy
      cases hy
      split at hn
      · rename_i h1
        subst h1
        cases hn
        refine ⟨s.data.toList.map fun b => .int .u8 b.toNat, ?_, ?_, ?_, ?_⟩
        · simp
        · intro i j e c he hc
          simp at he
          obtain ⟨b, hb, rfl⟩ := he
          cases j with
          | zero => simp [V.cells] at hc; subst hc; exact ⟨.int .u8 b.toNat, by simp [hb], .sc _ _⟩
          | succ j => simp [V.cells] at hc
        · intro w'
          simp [Builtin.lenOf]
        · intro w' _
          have e : s.extract 0 s.size = s := by
            apply ByteArray.ext
            simp
          have hl : (List.map (fun b : UInt8 => V.sc (.int .u8 b.toNat)) s.data.toList).length = s.size := by simp
          rw [hl]
          simp only [Builtin.firstCells, e, Sem.run_pure]
          congr 1
          apply Array.ext'
          simp
      · cases hn
    · rename_i hns
      simp only [V.elems] at hn
      split at hn
      all_goals first | (rename_i hh; cases hh; done) | skip
      · rename_i hh
        cases hh
        cases hn
        exact ⟨[], src_empty none 0⟩
      · cases hn
  | slice s es =>
    simp only [news, V.elems] at hn
    split at hn
    · rename_i hs
      cases hn
      cases hr with
      | nilslice => exact ⟨[], src_empty _ _⟩
      | slice _ _ _ g b cap f hcap hsz' hc hh =>
        rcases hs with rfl | rfl
        · refine ⟨_, src_row (f := fun k => f (k / s) (k % s)) (fun k hk => ?_) (fun i j e c he hcc => ?_)⟩
          · obtain ⟨h1, h2, h3⟩ := div k _ hk
            have := (hc _ _ h1 h2).2
            rw [Nat.add_assoc, h3] at this
            exact this
          · have hj : j < s := by
              have := (List.getElem?_eq_some_iff.1 hcc).1
              rw [hsz' e (List.mem_of_getElem? he)] at this
              exact this
            have e1 : (i * s + j) / s = i := by rw [Nat.mul_comm, Nat.mul_add_div hsz, Nat.div_eq_of_lt hj]; omega
            have e2 : (i * s + j) % s = j := by rw [Nat.mul_comm, Nat.mul_add_mod, Nat.mod_eq_of_lt hj]
            refine ⟨hj, ?_⟩
            simp only [e1, e2]
            exact (hh i j e c he hcc).mono (Pres.refl _ _) (fun _ _ h => h) (by simp [noPlaces])
        · exact ⟨[], src_empty _ _⟩
    · cases hn
  | own id off len =>
    simp only [news, V.elems] at hn
    split at hn
    · rename_i s es mu hl0
      split at hn
      · rename_i hc
        obtain ⟨rfl, hle⟩ := hc
        cases hn
        cases hr with
        | own0 => simp; exact ⟨[], src_empty _ _⟩
        | own _ _ _ _ cap p c t m hp hcap hb hroom =>
          rcases hS.obj id s es mu (only_live hl0) with ⟨_, hg⟩ | ⟨q, c', t', ho'⟩
          · rw [hg] at hp; cases hp
          · rw [ho'.place] at hp
            cases hp
            have hl2 : ((es.drop off).take len).length = len := by simp; omega
            have key := src_row (P := P) (I := I) (w := w) (γ := γ) (sz := s) (ys := (es.drop off).take len) (g := p.blk) (b := p.off + off * p.sz) (cap := cap)
              (f := fun k => (c'[p.off + off * s + k]?).getD undef) (fun k hk => by
                rw [hl2] at hk
                obtain ⟨h1, h2, h3⟩ := div k _ hk
                have hio : off + k / s < es.length := by omega
                have hjl : k % s < (es[off + k / s]).cells.length := by rw [ho'.len _ (List.getElem_mem hio)]; exact h2
                obtain ⟨y, hy, _⟩ := ho'.cell _ _ _ _ (List.getElem?_eq_getElem hio) (List.getElem?_eq_getElem hjl)
                have e : p.off + (off + k / s) * s + k % s = p.off + off * s + k := by rw [Nat.add_mul]; omega
                rw [e] at hy
                rw [ho'.size, cell_blk ho'.blk, hy]
                rfl)
              (fun i j e x he hx => by
                rw [List.getElem?_take] at he
                split at he
                · rw [List.getElem?_drop] at he
                  have hj : j < s := by
                    have := (List.getElem?_eq_some_iff.1 hx).1
                    rw [ho'.len e (List.mem_of_getElem? he)] at this
                    exact this
                  obtain ⟨y, hy, hrr⟩ := ho'.cell _ _ _ _ he hx
                  have e2 : p.off + (off + i) * s + j = p.off + off * s + (i * s + j) := by rw [Nat.add_mul]; omega
                  rw [e2] at hy
                  refine ⟨hj, ?_⟩
                  simp only [hy, Option.getD_some]
                  exact hrr
                · cases he)
            rw [hl2] at key
            exact ⟨_, key⟩
      · cases hn
    · cases hn
  | mt =>
    simp [news, V.elems] at hn
    subst hn
    cases hr
    exact ⟨[], src_empty _ _⟩
  | _ => simp [news, V.elems] at hn
theorem Src.one {sz : Nat} {ys : List V} {x : Value} {nl : List Value} (hs : Src P I w γ sz ys x nl) (hsz : 0 < sz) (hlen : ∀ y ∈ ys, y.cells.length = sz) (hf : ys.all V.isF = true) :
    ∀ u ∈ nl, u.oneCell' = true := by
  intro u hu
  rw [List.all_eq_true] at hf
  obtain ⟨k, hk⟩ := List.getElem?_of_mem hu
  have hkl : k < ys.length * sz := by
    have := (List.getElem?_eq_some_iff.1 hk).1
    rw [hs.len] at this
    exact this
  have h1 : k / sz < ys.length := (Nat.div_lt_iff_lt_mul hsz).2 hkl
  have h2 : k % sz < sz := Nat.mod_lt _ hsz
  have h3 : k / sz * sz + k % sz = k := by rw [Nat.mul_comm]; exact Nat.div_add_mod k sz
  have hjl : k % sz < (ys[k / sz]).cells.length := by rw [hlen _ (List.getElem_mem h1)]; exact h2
  obtain ⟨u', hu', hr⟩ := hs.cell _ _ _ _ (List.getElem?_eq_getElem h1) (List.getElem?_eq_getElem hjl)
  rw [h3, hk] at hu'
  cases hu'
  have hfc := isF_cell (hf _ (List.getElem_mem h1)) (List.getElem?_eq_getElem hjl)
  generalize (ys[k / sz]).cells[k % sz] = c at hr hfc
  cases hr <;> first | exact hfc | rfl | (simp [V.isFc] at hfc; done)
section
variable {t t' et : TypeId} {i : TypeInfo} {z : Value}
theorem run_srcType (ht : t' = t ∨ strT P t' = true) (hu : P.underlying t = some (.slice et)) (w : World) : ∃ d, (underlying t').run P w = .ok d w ∧ (d = .slice et ∨ d = .string) := by
  rcases ht with rfl | ht
  · exact ⟨_, run_underlying hu w, .inl rfl⟩
  · unfold strT at ht
    split at ht
    · rename_i hs; exact ⟨_, run_underlying hs w, .inr rfl⟩
    · cases ht
theorem run_append_in (ht : t' = t ∨ strT P t' = true) (hu : P.underlying t = some (.slice et)) (hi : P.info? et = some i) {ys : List V} {x : Value} {nl : List Value} (hs : Src P I w γ i.size ys x nl)
    {A : Option Addr} {sLen sCap : Nat} (hroom : sLen + ys.length ≤ sCap) (ty : TypeId) :
    (Builtin.append_ #[t, t'] ty #[.slice A sLen sCap, x]).run P w =
      ((match A with | some ad => storeCells (ad.add (sLen * i.size)) nl | none => pure () : Sem Unit).run P w).andThen fun _ w' => .ok (.slice A (sLen + ys.length) sCap) w' := by
  obtain ⟨d, hd, hm⟩ := run_srcType ht hu w
  have h1 := hs.count w
  have h2 := hs.first w (fun _ => rfl)
  cases A with
  | none => rcases hm with rfl | rfl <;> simp [Builtin.append_, run_underlying hu, sizeOf, typeInfo, hi, hd, h1, h2, hroom]
  | some ad => rcases hm with rfl | rfl <;> simp [Builtin.append_, run_underlying hu, sizeOf, typeInfo, hi, hd, h1, h2, hroom]
theorem run_append_out (ht : t' = t ∨ strT P t' = true) (hu : P.underlying t = some (.slice et)) (hi : P.info? et = some i) (hz : i.zero = some z) {ys : List V} {x : Value} {nl : List Value} (hs : Src P I w γ i.size ys x nl)
    {A : Option Addr} {sLen sCap : Nat} {olds : List Value} (hold : ∀ w', (∀ p, w'.cell? p = w.cell? p) → (Builtin.firstCells i.size sLen (.slice A sLen sCap)).run P w' = .ok olds.toArray w')
    (hroom : sCap < sLen + ys.length) (h63 : sLen + ys.length ≤ 4294967296) (hby : (sLen + ys.length) * i.bytes ≤ 68719476736) (ty : TypeId) :
    (Builtin.append_ #[t, t'] ty #[.slice A sLen sCap, x]).run P w =
      .ok (.slice (some ⟨w.heap.size, 0, none⟩) (sLen + ys.length) (grownCap w (sLen + ys.length) sCap et))
        (w.drew.alloc (.cells (olds.toArray ++ nl.toArray ++ Builtin.zeroCells z.cells (grownCap w (sLen + ys.length) sCap et - (sLen + ys.length))) et)) := by
  obtain ⟨d, hd, hm⟩ := run_srcType ht hu w
  have h1 := hs.count w
  have h2 := hs.first w.drew (fun _ => rfl)
  have h3 := hold w.drew (fun _ => rfl)
  have hn : ¬ (sLen + ys.length ≤ sCap) := by omega
  have h63' : ¬ (9223372036854775807 < ((sLen : Int) + (ys.length : Int))) := by omega
  have h48' : ¬ (281474976710656 < Builtin.nextslicecap (sLen + ys.length) sCap * i.bytes) := by
    have := growslice_fits (need := sLen + ys.length) (old := sCap) (bytes := i.bytes) hroom (by omega)
    omega
  rcases hm with rfl | rfl <;>
    (simp [Builtin.append_, run_underlying hu, sizeOf, typeInfo, zeroValue, hi, hz, hd, h1, h2, h3, hn, h63', h48', Question.forced, newRow, grownCap]
     try (congr 2; apply Array.ext'; simp [List.append_assoc]))
end
theorem grownCap_ge (w : World) (need old : Nat) (e : TypeId) : need ≤ grownCap w need old e := by
  unfold grownCap
  simp [Question.cut]
end Go.Idl
namespace Go.Idl
set_option linter.all false
open Go.RowKit
variable [Laid]
variable {P : Program} {C : Ctx} {γ : Places} {I : Imm} {τ : Nat → V} {H : Heap} {w : World} {a : Act} {o : Oper} {v : V} {tm : Array Value}
theorem row_append {sz : Nat} {es ys : List V} {olds nl rest : List Value} (h1 : olds.length = es.length * sz)
    (hlen : ∀ y ∈ ys, y.cells.length = sz) (hlen' : ∀ y ∈ es, y.cells.length = sz) (h2 : nl.length = ys.length * sz)
    (hold : ∀ (i j : Nat) (e c : V), es[i]? = some e → e.cells[j]? = some c → ∃ u, olds[i * sz + j]? = some u ∧ Rep I w γ c u)
    (hnew : ∀ (i j : Nat) (e c : V), ys[i]? = some e → e.cells[j]? = some c → ∃ u, nl[i * sz + j]? = some u ∧ Rep I w γ c u) :
    ∀ (i j : Nat) (e c : V), (es ++ ys)[i]? = some e → e.cells[j]? = some c → ∃ u, (olds ++ nl ++ rest)[i * sz + j]? = some u ∧ Rep I w γ c u := by
  intro i j e c he hc
  have lt : ∀ (l : List V) (i j : Nat) (e c : V), (∀ y ∈ l, y.cells.length = sz) → l[i]? = some e → e.cells[j]? = some c → i * sz + j < l.length * sz := by
    intro l i j e c hl he hc
    have hi : i < l.length := (List.getElem?_eq_some_iff.1 he).1
    have hj : j < sz := by
      have := (List.getElem?_eq_some_iff.1 hc).1
      rw [hl e (List.mem_of_getElem? he)] at this
      exact this
    have h2 := Nat.mul_le_mul_right sz (show i + 1 ≤ l.length from hi)
    rw [Nat.add_mul] at h2
    omega
  by_cases hi : i < es.length
  · rw [List.getElem?_append_left hi] at he
    obtain ⟨u, hu, hr⟩ := hold i j e c he hc
    refine ⟨u, ?_, hr⟩
    have := lt es i j e c hlen' he hc
    rw [List.append_assoc, List.getElem?_append_left (by omega)]
    exact hu
  · rw [List.getElem?_append_right (by omega)] at he
    obtain ⟨u, hu, hr⟩ := hnew _ j e c he hc
    refine ⟨u, ?_, hr⟩
    have := lt ys _ j e c hlen he hc
    have e1 : i * sz = es.length * sz + (i - es.length) * sz := by rw [← Nat.add_mul]; congr 1; omega
    rw [List.append_assoc, List.getElem?_append_right (by omega), List.getElem?_append_left (by omega), ← hu]
    congr 1
    omega
theorem Sim.bornAs (h : Sim C γ I τ H tm w) {nid sz : Nat} {es : List V} {c : Array Value} {t : TypeId} {mu : Bool} (hn : H nid = .unborn)
    (hlen : ∀ e, e ∈ es → e.cells.length = sz)
    (hcell : ∀ (i j : Nat) (e x : V), es[i]? = some e → e.cells[j]? = some x → ∃ u, c[i * sz + j]? = some u ∧ Rep I w γ x u) (hf : mu = false → es.all V.isF = true) :
    ∃ I', Sim C (updP γ nid ⟨w.heap.size, 0, sz⟩) I' τ (updH H nid (.live sz es mu)) tm (w.alloc (.cells c t)) ∧
      (w.alloc (.cells c t)).heap[w.heap.size]? = some (.cells c t (0, 0)) := by
  obtain ⟨h1, h2⟩ := h.born (t := t) (m := (0, 0)) hn hlen hcell
  cases mu with
  | true => exact ⟨I, h1, h2⟩
  | false =>
    obtain ⟨I', _, h3⟩ := h1.freezeOne (updH_same _ _ _) (hf rfl)
    rw [updH_updH] at h3
    exact ⟨I', h3, h2⟩
theorem kill_cells (h : Sim C γ I τ H tm w) {id sz off : Nat} {es : List V} {mu : Bool} (hl : H id = .live sz es mu) : (mu = false → es.all V.isF = true) ∧ ∀ e ∈ es.drop off, e ∈ es := by
  refine ⟨fun hm => ?_, fun e he => List.mem_of_mem_drop he⟩
  rcases h.obj id sz es mu hl with ⟨rfl, _⟩ | ⟨p, c, t, ho⟩
  · rfl
  · exact (ho.fix hm).2.2
section
variable (hS : Sim C γ I τ H a.tmps w)
include hS
theorem lands_append {c : Call} {x y : Operand} {t t' : TypeId} (ho : o.op = .call c) (hc : c.callee = .builtin .append) (hargs : c.args.toList = [x, y]) (hts : c.argTypes.toList = [t, t'])
    (htt : t = t' ∨ strT P t' = true) {nid : Nat} {ids : List Nat} {δ : List (Nat × Obj)} (h : evAppend P nid (only ids H) t (opd τ x) (opd τ y) = some (v, δ)) : Lands C P o a w τ (putH H δ) v := by
  have hargs' : c.args = #[x, y] := by rw [← Array.toArray_toList (xs := c.args), hargs]
  have hts' : c.argTypes = #[t, t'] := by rw [← Array.toArray_toList (xs := c.argTypes), hts]
  have htt' : t' = t ∨ strT P t' = true := htt.imp Eq.symm id
  unfold evAppend at h
  split at h
  · rename_i et h0 het
    have hn := only_unborn h0
    have hu := elemT_und het
    split at h
    · rename_i i z hi hz
      have hz' : i.zero = some z := by simpa [zeroT, hi] using hz
      split at h
      · rename_i hzc
        obtain ⟨hzs, hpos⟩ := hzc
        cases hys : news (only ids H) i.size (opd τ y) with
        | none => simp [hys] at h
        | some ys =>
        simp only [hys, Option.bind_some] at h
        have hx := rep_opd hS x
        have hy := rep_opd hS y
        have exec : ∀ {u : Value} {w' : World}, (Builtin.append_ #[t, t'] o.type #[a.eval x, a.eval y]).run P w = .ok u w' → (execOp a.eval o).run P w = .ok (.value u) w' := by
          intro u w' hrun
          simp [execOp, ho, resolve, hc, hargs', hts', invoke, builtin, hrun]
        -- onto a slice without a place
        have fresh : ∀ {A : Option Addr}, a.eval x = .slice A 0 0 → ys.length * i.bytes ≤ 68719476736 → ys.length ≤ 4294967296 → ys.all (fun y => y.cells.length = i.size) = true → ys.all V.isF = true →
            ∀ {H' : Heap} {mu : Bool}, Sim C γ I τ H' a.tmps w → H' nid = .unborn → Lands C P o a w τ (updH H' nid (.live i.size ys mu)) (.own nid 0 ys.length) := by
          intro A hA hby h63 hcl hfz H' mu hS' hn'
          obtain ⟨nl, hs⟩ := src_rep (P := P) hS hpos hys hy hcl
          rcases Nat.eq_zero_or_pos ys.length with hl0 | hl0
          · have hy0 : ys = [] := List.eq_nil_of_length_eq_zero hl0
            subst hy0
            have hrun := run_append_in (P := P) htt' hu hi hs (A := A) (sLen := 0) (sCap := 0) (by simp) o.type
            have hnl : nl = [] := List.eq_nil_of_length_eq_zero (by simpa using hs.len)
            subst hnl
            refine lands_value (u := .slice A 0 0) (w' := w) (exec ?_) (hS'.bornNil hn' i.size mu) (.own0 _ _ _ _)
            rw [hA, hrun]
            cases A <;> simp [storeCells]
          · have hrun := run_append_out (P := P) htt' hu hi hz' hs (A := A) (sLen := 0) (sCap := 0) (olds := []) (fun w' _ => by
              cases A <;> simp [Builtin.firstCells, loadCells, loadCellsFrom]) (by omega) (by omega) (by simpa using hby) o.type
            simp only [Nat.zero_add] at hrun
            have hcl' : ∀ y ∈ ys, y.cells.length = i.size := by
              intro y hy
              rw [List.all_eq_true] at hcl
              simpa using hcl y hy
            have hrow := row_append (I := I) (w := w.drew) (γ := γ) (es := []) (olds := []) (rest := (Builtin.zeroCells z.cells (grownCap w ys.length 0 et - ys.length)).toList) (by simp) hcl' (by simp) hs.len (by simp)
              (fun i j e c he hcc => (hs.cell i j e c he hcc).imp fun u hu => ⟨hu.1, hu.2.drawn _⟩)
            obtain ⟨I', hS2, hblk⟩ := Sim.bornAs (t := et) (mu := mu) (c := (#[] ++ nl.toArray ++ Builtin.zeroCells z.cells (grownCap w ys.length 0 et - ys.length))) (hS'.drawn (w.drawn + 1)) hn' hcl' (fun i j e c he hcc => by
              obtain ⟨u, hu, hr⟩ := hrow i j e c (by simpa using he) hcc
              refine ⟨u, ?_, hr⟩
              rw [← hu, ← Array.getElem?_toList]
              simp) (fun _ => hfz)
            refine lands_value (exec (by rw [hA]; exact hrun)) hS2 ?_
            have := Rep.own (I := I') (w := ({ w with drawn := w.drawn + 1 } : World).alloc (.cells (#[] ++ nl.toArray ++ Builtin.zeroCells z.cells (grownCap w ys.length 0 et - ys.length)) et))
              (updP γ nid ⟨w.heap.size, 0, i.size⟩) nid 0 ys.length (grownCap w ys.length 0 et) ⟨w.heap.size, 0, i.size⟩ _ et _ (by simp [updP]) (grownCap_ge _ _ _ _) hblk (by
                have := grownCap_ge w ys.length 0 et
                simp only [Array.size_append, size_zeroCells, hzs, List.size_toArray, hs.len]
                have e : grownCap w ys.length 0 et * i.size = ys.length * i.size + (grownCap w ys.length 0 et - ys.length) * i.size := by rw [← Nat.add_mul]; congr 1; omega
                simp
                omega)
            simpa using this
        split at h
        · rename_i id off len hv
          split at h
          · rename_i sz es mu hl0
            have hl := only_live hl0
            split at h
            · rename_i hcond
              obtain ⟨hsz, hend, hby, h63, hcl, hfz⟩ := hcond
              subst hsz
              simp only [Option.some.injEq, Prod.mk.injEq] at h
              obtain ⟨rfl, rfl⟩ := h
              rw [putH_cons, putH_one]
              rw [hv] at hx
              have hkill := hS.kill id
              have hne : nid ≠ id := by rintro rfl; rw [hn] at hl; cases hl
              have hn' : updH H id .dead nid = .unborn := by rw [updH_ne hne]; exact hn
              have hcl' : ∀ y ∈ ys, y.cells.length = i.size := by
                intro y hy
                rw [List.all_eq_true] at hcl
                simpa using hcl y hy
              generalize hu1 : a.eval x = u1 at hx
              cases hx with
              | own0 =>
                simp only [Nat.add_zero] at hend
                have hd : es.drop off = [] := by rw [hend]; simp
                rw [hd, List.nil_append, Nat.zero_add]
                exact fresh hu1 (by simpa using hby) (by simpa using h63) hcl hfz hkill hn'
              | own _ _ _ _ cap p cc tt mm hp hcap hb hroom =>
                rcases hS.obj id i.size es mu hl with ⟨_, hg⟩ | ⟨q, c', t2, ho'⟩
                · rw [hg] at hp; cases hp
                · rw [ho'.place] at hp
                  cases hp
                  have hcc : cc = c' := by
                    rw [ho'.blk] at hb
                    cases hb
                    rfl
                  rw [hcc] at hroom
                  obtain ⟨nl, hs⟩ := src_rep (P := P) hS hpos hys hy hcl
                  have hone := hs.one hpos hcl' hfz
                  obtain ⟨hfix, _⟩ := kill_cells (off := off) hS hl
                  have hlenD : ∀ e ∈ es.drop off, e.cells.length = i.size := fun e he => ho'.len e (List.mem_of_mem_drop he)
                  have hfD : mu = false → (es.drop off ++ ys).all V.isF = true := fun hm => by
                    have h1 := hfix hm
                    rw [List.all_eq_true] at h1 hfz ⊢
                    intro e he
                    rcases List.mem_append.1 he with he | he
                    · exact h1 e (List.mem_of_mem_drop he)
                    · exact hfz e he
                  have hlive : (H id).isLive := by rw [hl]; trivial
                  have hdom := hS.dom id p ho'.place
                  have hdl : (es.drop off).length = len := by simp; omega
                  rw [ho'.size] at hu1 hroom
                  have cellD : ∀ (k j : Nat) (e cx : V), (es.drop off)[k]? = some e → e.cells[j]? = some cx → ∃ u, c'[p.off + off * i.size + (k * i.size + j)]? = some u ∧ Rep I w γ cx u := by
                    intro k j e cx he hcx
                    rw [List.getElem?_drop] at he
                    obtain ⟨u, hu, hr⟩ := ho'.cell _ _ _ _ he hcx
                    refine ⟨u, ?_, hr⟩
                    rw [← hu]
                    congr 1
                    rw [Nat.add_mul]
                    omega
                  by_cases hfit : len + ys.length ≤ cap
                  · -- in place
                    have hrun := run_append_in (P := P) htt' hu hi hs (A := some ⟨p.blk, p.off + off * i.size, none⟩) (sLen := len) (sCap := cap) hfit o.type
                    have hend2 : p.off + off * i.size + len * i.size = p.off + es.length * i.size := by rw [← hend, Nat.add_mul]; omega
                    have hroom2 : p.off + es.length * i.size + 0 + nl.length ≤ c'.size := by
                      have h1 : (off + (len + ys.length)) * i.size ≤ (off + cap) * i.size := Nat.mul_le_mul_right _ (by omega)
                      rw [hs.len, ← hend]
                      have h2 : (off + len) * i.size + ys.length * i.size = (off + (len + ys.length)) * i.size := by rw [← Nat.add_mul]; congr 1; omega
                      omega
                    have hst := run_storeCells_q (P := P) p.blk (p.off + es.length * i.size) t2.1 t2.2 nl 0 c' w ho'.blk ho'.quiet hroom2 hone
                    simp only [Nat.add_zero] at hst hroom2
                    simp only [addr_add, hend2, hst, Result.andThen_ok] at hrun
                    generalize hc2 : (c'.toList.take (p.off + es.length * i.size) ++ nl ++ c'.toList.drop (p.off + es.length * i.size + nl.length)).toArray = c2 at hrun
                    have hc2s : c2.size = c'.size := by rw [← hc2]; simp; omega
                    have hget : ∀ j, c2[j]? = if p.off + es.length * i.size ≤ j ∧ j < p.off + es.length * i.size + nl.length then nl[j - (p.off + es.length * i.size)]? else c'[j]? := by
                      intro j
                      have h1 : (c'.toList.take (p.off + es.length * i.size)).length = p.off + es.length * i.size := by simp; omega
                      rw [← hc2, List.getElem?_toArray, List.append_assoc]
                      by_cases hj : j < p.off + es.length * i.size
                      · rw [List.getElem?_append_left (by omega), if_neg (by omega), List.getElem?_take, if_pos hj, Array.getElem?_toList]
                      · rw [List.getElem?_append_right (by omega), h1]
                        by_cases hj2 : j < p.off + es.length * i.size + nl.length
                        · rw [List.getElem?_append_left (by omega), if_pos ⟨by omega, hj2⟩]
                        · rw [List.getElem?_append_right (by omega), if_neg (by omega), List.getElem?_drop, Array.getElem?_toList]
                          congr 1
                          omega
                    have hg' : (w.setRow p.blk c2).heap[p.blk]? = some (.cells c2 t2.1 t2.2) := setRow_heap w p.blk c' c2 t2.1 t2.2 ho'.blk
                    have hfar : ∀ k, k ≠ p.blk → (w.setRow p.blk c2).heap[k]? = w.heap[k]? := by
                      intro k hk
                      simp only [World.setRow, Array.getElem?_modify]
                      rw [if_neg (fun e => hk e.symm)]
                    have hIk : ∀ y, I p.blk y → c2[y]? = c'[y]? := by
                      intro y hy
                      cases mu with
                      | true => exact absurd hy (ho'.mutb rfl y)
                      | false =>
                        have := (ho'.fix rfl).1 y hy
                        rw [hget, if_neg (by omega)]
                    have k1 := hkill.touch hdom.2.1 (hS.idle hlive ho'.place) ho'.blk hg' hc2s hIk hfar (by simp [World.setRow]) rfl rfl rfl rfl
                    have hpres : Pres I w (w.setRow p.blk c2) := ⟨fun g z hz => by
                        by_cases eg : g = p.blk
                        · subst eg
                          rw [cell_blk hg', cell_blk ho'.blk]
                          exact hIk z hz
                        · simp [World.cell?, hfar g eg], fun g c0 t0 m0 h0 => by
                        by_cases eg : g = p.blk
                        · subst eg; rw [ho'.blk] at h0; cases h0; exact ⟨c2, hg', hc2s⟩
                        · exact ⟨c0, (hfar g eg).trans h0, rfl⟩, fun g es n hx h0 => by
                        by_cases eg : g = p.blk
                        · subst eg; rw [ho'.blk] at h0; cases h0
                        · exact (hfar g eg).trans h0⟩
                    have k2 := k1.place hn' (p := ⟨p.blk, p.off + off * i.size, i.size⟩) hdom.2.1 (by simpa [World.setRow] using hdom.2.2)
                    have hγn : γ nid = none := by
                      rcases hg : γ nid with _ | p
                      · rfl
                      · exact absurd hn (hS.dom nid p hg).1
                    have hγ : ∀ id q, γ id = some q → updP γ nid ⟨p.blk, p.off + off * i.size, i.size⟩ id = some q := fun id' q hq => by
                      unfold updP
                      by_cases e : id' = nid
                      · subst e; rw [hγn] at hq; cases hq
                      · simp [e, hq]
                    have hidle2 : Idle (updP γ nid ⟨p.blk, p.off + off * i.size, i.size⟩) (updH (updH (updH H id .dead) nid .dead) nid .dead) p.blk := by
                      intro x' q hx' hq hblk
                      rw [updH_updH] at hx'
                      by_cases e : x' = nid
                      · subst e; rw [updH_same] at hx'; exact hx'
                      · rw [updH_ne e] at hx'
                        unfold updP at hq
                        simp [e] at hq
                        exact hS.idle hlive ho'.place x' q hx' hq hblk
                    have cellAll : ∀ (k j : Nat) (e cx : V), (es.drop off ++ ys)[k]? = some e → e.cells[j]? = some cx → ∃ u, c2[p.off + off * i.size + k * i.size + j]? = some u ∧ Rep I w γ cx u := by
                      intro k j e cx he hcx
                      by_cases hk : k < (es.drop off).length
                      · rw [List.getElem?_append_left hk] at he
                        obtain ⟨u, hu, hr⟩ := cellD k j e cx he hcx
                        refine ⟨u, ?_, hr⟩
                        have hj : j < i.size := by
                          have := (List.getElem?_eq_some_iff.1 hcx).1
                          rw [hlenD e (List.mem_of_getElem? he)] at this
                          exact this
                        have h2 : (off + k + 1) * i.size ≤ es.length * i.size := Nat.mul_le_mul_right _ (by simp at hk; omega)
                        rw [Nat.add_mul, Nat.add_mul] at h2
                        rw [hget, if_neg (by omega), Nat.add_assoc]
                        exact hu
                      · rw [List.getElem?_append_right (by omega)] at he
                        obtain ⟨u, hu, hr⟩ := hs.cell _ j e cx he hcx
                        refine ⟨u, ?_, hr⟩
                        have hj := (List.getElem?_eq_some_iff.1 hu).1
                        have e1 : off * i.size + k * i.size = es.length * i.size + (k - (es.drop off).length) * i.size := by
                          rw [← Nat.add_mul, ← Nat.add_mul]
                          congr 1
                          simp at hk ⊢
                          omega
                        rw [hget, if_pos (by omega), ← hu]
                        congr 1
                        omega
                    obtain ⟨I', hI', k3⟩ : ∃ I', (∀ g x, I g x → I' g x) ∧ Sim C (updP γ nid ⟨p.blk, p.off + off * i.size, i.size⟩) I' τ (updH (updH H id .dead) nid (.live i.size (es.drop off ++ ys) mu)) a.tmps (w.setRow p.blk c2) := by
                      have mk : ∀ (I' : Imm), (∀ g x, I g x → I' g x) → Sim C (updP γ nid ⟨p.blk, p.off + off * i.size, i.size⟩) I' τ (updH (updH H id .dead) nid .dead) a.tmps (w.setRow p.blk c2) →
                          (mu = true → ∀ y, ¬ I' p.blk y) → (mu = false → (∀ y, I' p.blk y → y < p.off + off * i.size + (es.drop off ++ ys).length * i.size) ∧ ∀ k j, k < (es.drop off ++ ys).length → j < i.size → I' p.blk (p.off + off * i.size + k * i.size + j)) →
                          Sim C (updP γ nid ⟨p.blk, p.off + off * i.size, i.size⟩) I' τ (updH (updH H id .dead) nid (.live i.size (es.drop off ++ ys) mu)) a.tmps (w.setRow p.blk c2) := by
                        intro I' hI' hs' hm hfx
                        have := hs'.revive (id := nid) (sz := i.size) (es := es.drop off ++ ys) (mu := mu) (p := ⟨p.blk, p.off + off * i.size, i.size⟩) (c := c2) (t := t2) hidle2
                          ⟨by simp [updP], rfl, hg', fun e he => (List.mem_append.1 he).elim (hlenD e) (hcl' e), fun k j e cx he hcx => (cellAll k j e cx he hcx).imp fun u hu => ⟨hu.1, hu.2.mono hpres hI' hγ⟩,
                            hm, fun hmf => ⟨(hfx hmf).1, (hfx hmf).2, hfD hmf⟩, by rw [hc2s]; exact ho'.quiet⟩
                        rw [updH_updH] at this
                        exact this
                      cases mu with
                      | true => exact ⟨I, fun _ _ h => h, mk I (fun _ _ h => h) k2 (fun _ => ho'.mutb rfl) (by simp)⟩
                      | false =>
                        have k2' := k2.fixCells (I' := fun g x => I g x ∨ (g = p.blk ∧ p.off + off * i.size ≤ x ∧ x < p.off + off * i.size + (es.drop off ++ ys).length * i.size)) (fun _ _ h => .inl h) (fun g x hx => by
                          rcases hx with hx | ⟨rfl, _, _⟩
                          · exact .inl hx
                          · refine .inr ⟨hdom.2.1, by simpa [World.setRow] using hdom.2.2, ?_⟩
                            rw [updH_updH] at hidle2
                            exact hidle2)
                        refine ⟨_, fun _ _ h => .inl h, mk _ (fun _ _ h => .inl h) k2' (by simp) fun _ => ⟨fun y hy => ?_, fun k j hk hj => .inr ⟨rfl, by omega, ?_⟩⟩⟩
                        · rcases hy with hy | ⟨_, _, hy⟩
                          · have := (ho'.fix rfl).1 y hy
                            have h3 : es.length * i.size ≤ off * i.size + (es.drop off ++ ys).length * i.size := by
                              rw [← Nat.add_mul]
                              exact Nat.mul_le_mul_right _ (by simp; omega)
                            omega
                          · exact hy
                        · have h2 := Nat.mul_le_mul_right i.size (show k + 1 ≤ (es.drop off ++ ys).length from hk)
                          rw [Nat.add_mul] at h2
                          omega
                    refine lands_value (exec (by rw [hu1]; exact hrun)) k3 ?_
                    have := Rep.own (I := I') (w := w.setRow p.blk c2) (updP γ nid ⟨p.blk, p.off + off * i.size, i.size⟩) nid 0 (len + ys.length) cap ⟨p.blk, p.off + off * i.size, i.size⟩ c2 t2.1 t2.2 (by simp [updP]) hfit hg' (by
                      simp only [Nat.zero_add]
                      rw [hc2s]
                      rw [Nat.add_mul] at hroom
                      omega)
                    simpa using this
                  · -- into a new block
                    have hold := run_loadCells (P := P) (n := len * i.size) (f := fun k => (c'[p.off + off * i.size + k]?).getD undef) (a := ⟨p.blk, p.off + off * i.size, none⟩)
                    have hcellk : ∀ k, k < len * i.size → w.cell? ⟨p.blk, p.off + off * i.size + k, none⟩ = some ((c'[p.off + off * i.size + k]?).getD undef) := by
                      intro k hk
                      have h1 : k / i.size < len := (Nat.div_lt_iff_lt_mul hpos).2 hk
                      have h2 : k % i.size < i.size := Nat.mod_lt _ hpos
                      have h3 : k / i.size * i.size + k % i.size = k := by rw [Nat.mul_comm]; exact Nat.div_add_mod k i.size
                      have hio : k / i.size < (es.drop off).length := by omega
                      have hjl : k % i.size < ((es.drop off)[k / i.size]).cells.length := by rw [hlenD _ (List.getElem_mem hio)]; exact h2
                      obtain ⟨u, hu, _⟩ := cellD _ _ _ _ (List.getElem?_eq_getElem hio) (List.getElem?_eq_getElem hjl)
                      rw [h3] at hu
                      rw [cell_blk ho'.blk, hu]
                      rfl
                    have hrun := run_append_out (P := P) htt' hu hi hz' hs (A := some ⟨p.blk, p.off + off * i.size, none⟩) (sLen := len) (sCap := cap)
                      (olds := (List.range (len * i.size)).map fun k => (c'[p.off + off * i.size + k]?).getD undef) (fun w' hw => by
                        have := hold w' (fun j hj => by rw [addr_add, hw]; exact hcellk j hj)
                        simp [Builtin.firstCells, this]) (by omega) h63 hby o.type
                    have hrow := row_append (I := I) (w := w.drew) (γ := γ) (es := es.drop off) (olds := (List.range (len * i.size)).map fun k => (c'[p.off + off * i.size + k]?).getD undef)
                      (rest := (Builtin.zeroCells z.cells (grownCap w (len + ys.length) cap et - (len + ys.length))).toList) (by simp only [List.length_map, List.length_range, hdl]) hcl' hlenD hs.len (fun k j e cx he hcx => by
                        obtain ⟨u, hu, hr⟩ := cellD k j e cx he hcx
                        have hj : j < i.size := by
                          have := (List.getElem?_eq_some_iff.1 hcx).1
                          rw [hlenD e (List.mem_of_getElem? he)] at this
                          exact this
                        have hk : k < len := by
                          have := (List.getElem?_eq_some_iff.1 he).1
                          omega
                        have h2 := Nat.mul_le_mul_right i.size (show k + 1 ≤ len from hk)
                        rw [Nat.add_mul] at h2
                        refine ⟨u, ?_, hr.drawn _⟩
                        rw [List.getElem?_map, List.getElem?_range (by omega)]
                        simp [hu])
                      (fun i j e c he hcc => (hs.cell i j e c he hcc).imp fun u hu => ⟨hu.1, hu.2.drawn _⟩)
                    obtain ⟨I', hS2, hblk⟩ := Sim.bornAs (t := et) (mu := mu) (c := (((List.range (len * i.size)).map fun k => (c'[p.off + off * i.size + k]?).getD undef).toArray ++ nl.toArray ++ Builtin.zeroCells z.cells (grownCap w (len + ys.length) cap et - (len + ys.length))))
                      (hkill.drawn (w.drawn + 1)) hn' (fun e he => (List.mem_append.1 he).elim (hlenD e) (hcl' e)) (fun k j e cx he hcx => by
                        obtain ⟨u, hu, hr⟩ := hrow k j e cx he hcx
                        refine ⟨u, ?_, hr⟩
                        rw [← hu, ← Array.getElem?_toList]
                        simp) hfD
                    refine lands_value (exec (by rw [hu1]; exact hrun)) hS2 ?_
                    have := Rep.own (I := I') (w := ({ w with drawn := w.drawn + 1 } : World).alloc (.cells (((List.range (len * i.size)).map fun k => (c'[p.off + off * i.size + k]?).getD undef).toArray ++ nl.toArray ++ Builtin.zeroCells z.cells (grownCap w (len + ys.length) cap et - (len + ys.length))) et))
                      (updP γ nid ⟨w.heap.size, 0, i.size⟩) nid 0 (len + ys.length) (grownCap w (len + ys.length) cap et) ⟨w.heap.size, 0, i.size⟩ _ et _ (by simp [updP]) (grownCap_ge _ _ _ _) hblk (by
                        have := grownCap_ge w (len + ys.length) cap et
                        simp only [Array.size_append, size_zeroCells, hzs, List.size_toArray, hs.len, List.length_map, List.length_range]
                        have e : grownCap w (len + ys.length) cap et * i.size = len * i.size + ys.length * i.size + (grownCap w (len + ys.length) cap et - (len + ys.length)) * i.size := by
                          rw [← Nat.add_mul, ← Nat.add_mul]; congr 1; omega
                        simp
                        omega)
                    simpa using this
            · cases h
          · cases h
        · rename_i hv
          split at h
          · rename_i hcond
            obtain ⟨hby, h63, hcl, hfz⟩ := hcond
            simp only [Option.some.injEq, Prod.mk.injEq] at h
            obtain ⟨rfl, rfl⟩ := h
            rw [putH_one]
            rw [hv] at hx
            generalize hu1 : a.eval x = u1 at hx
            cases hx
            exact fresh hu1 hby h63 hcl hfz hS hn
          · cases h
        · rename_i hv
          split at h
          · rename_i hcond
            obtain ⟨hby, h63, hcl, hfz⟩ := hcond
            simp only [Option.some.injEq, Prod.mk.injEq] at h
            obtain ⟨rfl, rfl⟩ := h
            rw [putH_one]
            rw [hv] at hx
            exact fresh hx.sc_eq hby h63 hcl hfz hS hn
          · cases h
        · cases h
      · cases h
    · cases h
  · cases h
end
end Go.Idl
namespace Go.Idl
set_option linter.all false
open Go.RowKit
variable [Laid]
section
variable {P : Program}
theorem runPure_bind {α β : Type} (P : Program) (s : Sem α) (k : α → Sem β) : runPure P (s >>= k) = (runPure P s).bind fun a => runPure P (k a) := by
  show runPure P (Sem.bind s k) = _
  induction s with
  | pure a => simp [Sem.bind, runPure]
  | program g ih => simp only [Sem.bind, runPure]; exact ih P
  | _ => simp [Sem.bind, runPure]
theorem runPure_pure {α : Type} (P : Program) (a : α) : runPure P (pure a : Sem α) = some a := rfl
theorem runPure_underlying {t : TypeId} {d : TypeDesc} (h : P.underlying t = some d) : runPure P (underlying t) = some d := by
  show runPure P (Sem.bind (.program .pure) _) = _
  simp only [Sem.bind, runPure, h]
  rfl
end
theorem eqK_len : ∀ {ks : List CK} {xs ys : List Value} {b : Bool}, eqK ks xs ys = some b → xs.length = ks.length ∧ ys.length = ks.length
  | [], [], [], _, _ => ⟨rfl, rfl⟩
  | c :: ks, x :: xs, y :: ys, b, h => by
    simp only [eqK] at h
    cases h2 : eqK ks xs ys with
    | none => rw [h2] at h; cases h1 : eqC c x y <;> simp [h1, andO] at h
    | some b' => have := eqK_len h2; simp [this]
  | [], _ :: _, _, _, h => by simp [eqK] at h
  | [], [], _ :: _, _, h => by simp [eqK] at h
  | _ :: _, [], _, _, h => by simp [eqK] at h
  | _ :: _, _ :: _, [], _, h => by simp [eqK] at h
theorem eqK_app : ∀ {ks ls : List CK} {xs ys : List Value} {b : Bool}, eqK (ks ++ ls) xs ys = some b →
    ∃ b1 b2, eqK ks (xs.take ks.length) (ys.take ks.length) = some b1 ∧ eqK ls (xs.drop ks.length) (ys.drop ks.length) = some b2 ∧ b = (b1 && b2)
  | [], ls, xs, ys, b, h => ⟨true, b, rfl, by simpa using h, by simp⟩
  | c :: ks, ls, x :: xs, y :: ys, b, h => by
    simp only [List.cons_append, eqK] at h
    cases h1 : eqC c x y with
    | none => simp [h1, andO] at h
    | some b0 =>
      cases h2 : eqK (ks ++ ls) xs ys with
      | none => simp [h1, h2, andO] at h
      | some b' =>
        obtain ⟨b1, b2, h3, h4, rfl⟩ := eqK_app h2
        simp only [h1, h2, andO, Option.some.injEq] at h
        subst h
        exact ⟨b0 && b1, b2, by simp [eqK, h1, h3, andO], by simpa using h4, by simp [Bool.and_assoc]⟩
  | _ :: _, _, [], _, _, h => by simp [eqK] at h
  | _ :: _, _, _ :: _, [], _, h => by simp [eqK] at h
variable {P : Program}
theorem runPure_sizeT {t : TypeId} {n : Nat} (h : sizeT P t = some n) : runPure P (sizeOf t) = some n := by
  unfold sizeT at h
  cases hi : P.info? t with
  | none => simp [hi] at h
  | some i =>
    simp [hi] at h
    simp [sizeOf, typeInfo, program, runPure_bind, runPure, hi, h, runPure_pure]
theorem runPure_isAgg {t : TypeId} {d : TypeDesc} (h : P.underlying t = some d) : runPure P (isAgg t) = some (aggT P t) := by
  unfold isAgg aggT
  rw [runPure_bind, runPure_underlying h, h]
  cases d <;> rfl
def ofCells (ag : Bool) (cs : List Value) : Value := if ag then .agg cs.toArray else cs.headD undef
theorem runPure_part {t : TypeId} {d : TypeDesc} {n o : Nat} {xs : Array Value} (h : P.underlying t = some d) (hs : sizeT P t = some n) (hle : o + n ≤ xs.size) (h1 : aggT P t = false → n = 1) :
    runPure P (part t xs o) = some (ofCells (aggT P t) ((xs.toList.drop o).take n)) := by
  unfold part ofCells
  rw [runPure_bind, runPure_isAgg h, Option.bind_some]
  cases ha : aggT P t with
  | true =>
    simp only [if_true, runPure_bind, runPure_sizeT hs, Option.bind_some, runPure_pure]
    congr 2
    apply Array.ext'
    rw [Array.toList_extract]
    simp [List.extract_eq_take_drop]
  | false =>
    have := h1 ha
    subst this
    simp only [Bool.false_eq_true, if_false]
    have hlt : o < xs.size := by omega
    have : xs[o]? = some xs[o] := by simp [hlt]
    rw [this]
    simp only [runPure_pure]
    congr 1
    have e : List.drop o xs.toList = xs[o] :: List.drop (o + 1) xs.toList := by
      rw [List.drop_eq_getElem_cons (by simpa using hlt)]; simp
    rw [e]
    rfl
theorem cellKinds_one {f : Nat} {t : TypeId} {ks : List CK} (h : cellKinds P f t = some ks) : (∃ d, P.underlying t = some d) ∧ (aggT P t = false → ks.length = 1) := by
  cases f with
  | zero => simp [cellKinds] at h
  | succ f =>
    simp only [cellKinds] at h
    unfold aggT
    cases hu : P.underlying t with
    | none => rw [hu] at h; simp at h
    | some d =>
      rw [hu] at h
      refine ⟨⟨d, rfl⟩, ?_⟩
      cases d <;> simp at h ⊢ <;> simp [← h]
theorem runPure_equalIn : ∀ (f : Nat) (d : Nat) (t : TypeId) (ks : List CK) (xs ys : List Value) (b : Bool), f ≤ d → cellKinds P f t = some ks → eqK ks xs ys = some b →
    runPure P (Op.equalIn d t (ofCells (aggT P t) xs) (ofCells (aggT P t) ys)) = some b
  | 0, _, _, _, _, _, _, _, h, _ => by simp [cellKinds] at h
  | f + 1, 0, _, _, _, _, _, hd, _, _ => by omega
  | f + 1, d + 1, t, ks, xs, ys, b, hd, hk, he => by
    simp only [cellKinds] at hk
    cases hu : P.underlying t with
    | none => rw [hu] at hk; simp at hk
    | some ty =>
      rw [hu] at hk
      have one : ∀ c, ks = [c] → aggT P t = false → ∃ x y, xs = [x] ∧ ys = [y] ∧ eqC c x y = some b := by
        rintro c rfl _
        obtain ⟨h1, h2⟩ := eqK_len he
        match xs, ys, h1, h2 with
        | [x], [y], _, _ =>
          refine ⟨x, y, rfl, rfl, ?_⟩
          simp only [eqK] at he
          cases h : eqC c x y with
          | none => simp [h, andO] at he
          | some b' => simp [h, andO] at he; rw [he]
      cases ty with
      | bool =>
        simp at hk
        have ha : aggT P t = false := by simp [aggT, hu]
        obtain ⟨x, y, rfl, rfl, h⟩ := one _ hk.symm ha
        rw [ha]
        unfold eqC at h
        split at h <;> simp_all [ofCells, Op.equalIn, runPure_bind, runPure_underlying hu, runPure_pure]
      | int k =>
        simp at hk
        have ha : aggT P t = false := by simp [aggT, hu]
        obtain ⟨x, y, rfl, rfl, h⟩ := one _ hk.symm ha
        rw [ha]
        unfold eqC at h
        split at h <;> simp_all [ofCells, Op.equalIn, runPure_bind, runPure_underlying hu, runPure_pure]
      | string =>
        simp at hk
        have ha : aggT P t = false := by simp [aggT, hu]
        obtain ⟨x, y, rfl, rfl, h⟩ := one _ hk.symm ha
        rw [ha]
        unfold eqC at h
        split at h <;> simp_all [ofCells, Op.equalIn, runPure_bind, runPure_underlying hu, runPure_pure]
      | struct fs =>
        simp only at hk
        split at hk
        · rename_i hs
          have ha : aggT P t = true := by simp [aggT, hu]
          rw [ha]
          simp only [ofCells, if_true]
          simp only [Op.equalIn, runPure_bind, runPure_underlying hu, Option.bind_some]
          simp only [program, runPure, Option.bind_some, hs]
          simp only [Bool.false_eq_true, if_false, runPure_bind, runPure_pure, Option.bind_some, ne_eq]
          rw [← Array.forIn_toList]
          -- over the fields
          have key : ∀ (l : List Field) (o : Nat) (ls : List CK) (b : Bool), fieldKinds P (cellKinds P f) o l = some ls → eqK ls (xs.drop o) (ys.drop o) = some b →
              runPure P (forIn l ((none : Option Bool), ()) fun f __s =>
                if ¬f.name = "_" then do
                  let __do_lift ← part f.type xs.toArray f.offset
                  let __do_lift_1 ← part f.type ys.toArray f.offset
                  let __do_lift ← Op.equalIn d f.type __do_lift __do_lift_1
                  if (!__do_lift) = true then pure (ForInStep.done (some false, ())) else pure (ForInStep.yield (none, ()))
                else pure (ForInStep.yield (none, ()))) = some (if b then (none, ()) else (some false, ())) := by
            intro l
            induction l with
            | nil =>
              intro o ls b h1 h2
              simp [fieldKinds] at h1
              subst h1
              obtain ⟨g1, g2⟩ := eqK_len h2
              have e1 : xs.drop o = [] := List.eq_nil_of_length_eq_zero g1
              have e2 : ys.drop o = [] := List.eq_nil_of_length_eq_zero g2
              rw [e1, e2] at h2
              simp [eqK] at h2
              subst h2
              rfl
            | cons fd l ih =>
              intro o ls b h1 h2
              simp only [fieldKinds] at h1
              split at h1
              · rename_i k1 k2 hk1 hk2
                split at h1
                · rename_i hc
                  cases h1
                  obtain ⟨b1, b2, h3, h4, rfl⟩ := eqK_app h2
                  rw [List.drop_drop, List.drop_drop] at h4
                  obtain ⟨⟨dd, hdd⟩, hone⟩ := cellKinds_one hk1
                  have hcs : P.cellsOf fd.type = k1.length := by
                    have := hc.2.2.1
                    unfold sizeT at this
                    unfold Program.cellsOf
                    rw [this]
                    rfl
                  rw [hcs] at hk2
                  obtain ⟨g1, g2⟩ := eqK_len h3
                  have hz := hc.2.2.2
                  have q1 : o + k1.length ≤ xs.length := by simp at g1; omega
                  have q2 : o + k1.length ≤ ys.length := by simp at g2; omega
                  rw [List.forIn_cons]
                  simp only [if_pos hc.2.1, runPure_bind, hc.1]
                  rw [runPure_part (xs := xs.toArray) hdd hc.2.2.1 (by simpa using q1) hone, runPure_part (xs := ys.toArray) hdd hc.2.2.1 (by simpa using q2) hone]
                  simp only [Option.bind_some]
                  rw [runPure_equalIn f d fd.type k1 _ _ b1 (by omega) hk1 h3]
                  simp only [Option.bind_some]
                  cases b1 with
                  | false => simp [runPure_pure]
                  | true =>
                    simp only [Bool.not_true, Bool.false_eq_true, if_false, runPure_pure, Option.bind_some, Bool.true_and]
                    exact ih _ k2 b2 hk2 h4
                · cases h1
              · cases h1
          rw [key fs.toList 0 ks b hk (by simpa using he)]
          cases b <;> rfl
        · cases hk
      | _ => simp at hk
theorem okKey_t {v : Value} (h : okKey true v = true) : ∃ cs, v = .agg cs := by
  cases v <;> simp [okKey] at h
  exact ⟨_, rfl⟩
theorem okKey_f {v : Value} (h : okKey false v = true) : v.cells = #[v] := by
  cases v <;> simp [okKey] at h <;> rfl
theorem okKey_fits {ag : Bool} {v : Value} (h : okKey ag v = true) : v = ofCells ag v.cells.toList := by
  unfold ofCells
  cases ag with
  | true => obtain ⟨cs, rfl⟩ := okKey_t h; simp [Value.cells]
  | false => rw [okKey_f h]; rfl
theorem keyFind_ge {ag : Bool} {ks : List CK} {k : List Value} : ∀ {xs : List Value} {i j : Nat}, keyFind ag ks k xs i = some (some j) → i ≤ j ∧ j - i < xs.length
  | [], i, j, h => by simp [keyFind] at h
  | x :: xs, i, j, h => by
    simp only [keyFind] at h
    split at h
    · split at h
      · cases h; simp
      · have := keyFind_ge h; simp; omega
      · cases h
    · cases h
theorem keyFind_eq {ag : Bool} {ks : List CK} {k : List Value} : ∀ {xs : List Value} {i j : Nat}, keyFind ag ks k xs i = some (some j) → ∃ x, xs[j - i]? = some x ∧ okKey ag x = true ∧ eqK ks k x.cells.toList = some true
  | [], i, j, h => by simp [keyFind] at h
  | x :: xs, i, j, h => by
    simp only [keyFind] at h
    split at h
    · rename_i ho
      split at h
      · rename_i he; cases h; exact ⟨x, by simp, ho, he⟩
      · have hge := keyFind_ge h
        obtain ⟨y, h1, h2⟩ := keyFind_eq h
        exact ⟨y, by rw [show j - i = (j - (i + 1)) + 1 by omega, List.getElem?_cons_succ]; exact h1, h2⟩
      · cases h
    · cases h
variable {P : Program}
theorem find_asking {kt : TypeId} {ks : List CK} (hk : cellKinds P 8 kt = some ks) {k : Value} (hkf : okKey (aggT P kt) k = true) : ∀ (es : List MapEntry) (i : Nat) (r : Option Nat), keyFind (aggT P kt) ks k.cells.toList (es.map (·.key)) i = some r →
    runPure P (Instr.findAsking kt k es i) = some (r.bind fun j => (es[j - i]?).map fun e => (j, e.val))
  | [], i, r, h => by
    simp [keyFind] at h
    subst h
    rfl
  | e :: es, i, r, h => by
    simp only [List.map_cons, keyFind] at h
    split at h
    · rename_i hef
      unfold Instr.findAsking
      rw [runPure_bind]
      cases he : eqK ks k.cells.toList e.key.cells.toList with
      | none => rw [he] at h; cases h
      | some b =>
        have := runPure_equalIn 8 10000 kt ks _ _ b (by omega) hk he
        rw [← okKey_fits hkf, ← okKey_fits hef] at this
        rw [show runPure P (Op.equal kt k e.key) = some b from this]
        rw [he] at h
        cases b with
        | true => cases h; simp [runPure_pure]
        | false =>
          simp only [Option.bind_some, Bool.false_eq_true, if_false]
          rw [find_asking hk hkf es (i + 1) r h]
          congr 1
          cases r with
          | none => rfl
          | some j =>
            have := keyFind_ge h
            simp only [Option.bind_some]
            rw [show j - i = (j - (i + 1)) + 1 by omega, List.getElem?_cons_succ]
    · cases h
theorem find_now {d : TypeDesc} {k : Value} {c : CK} (hc : ∀ x : Value, eqC c k x = none ∨ Instr.sameNow d k x = eqC c k x) (h2 : k.cells = #[k]) : ∀ (es : List MapEntry) (i : Nat) (r' : Option Nat), keyFind false [c] k.cells.toList (es.map (·.key)) i = some r' →
      Instr.findNow d k es i = some (r'.bind fun j => (es[j - i]?).map fun e => (j, e.val))
  | [], i, r', h3 => by
    simp [keyFind] at h3
    subst h3
    rfl
  | e :: es, i, r', h3 => by
    simp only [List.map_cons, keyFind] at h3
    split at h3
    · rename_i ho
      simp only [h2, okKey_f ho, eqK] at h3
      simp only [Instr.findNow]
      rcases hc e.key with h0 | h0
      · simp [h0, andO] at h3
      · rw [h0]
        cases hb : eqC c k e.key with
        | none => simp [hb, andO] at h3
        | some b =>
          simp only [hb, andO, Bool.and_true] at h3
          cases b with
          | true => cases h3; simp
          | false =>
            simp only at h3 ⊢
            rw [find_now hc h2 es (i + 1) r' (by rw [h2]; exact h3)]
            cases r' with
            | none => rfl
            | some j =>
              have := keyFind_ge h3
              simp only [Option.bind_some]
              rw [show j - i = (j - (i + 1)) + 1 by omega, List.getElem?_cons_succ]
    · cases h3
theorem find_key {kt : TypeId} {ks : List CK} (hk : cellKinds P 8 kt = some ks) {k : Value} (hkf : okKey (aggT P kt) k = true) {es : List MapEntry} {r : Option Nat} (h : keyFind (aggT P kt) ks k.cells.toList (es.map (·.key)) 0 = some r) :
    runPure P (Instr.findKey kt k es) = some (r.bind fun j => (es[j]?).map fun e => (j, e.val)) := by
  have hask := find_asking hk hkf es 0 r h
  simp only [Nat.sub_zero] at hask
  unfold Instr.findKey
  obtain ⟨⟨d, hd⟩, _⟩ := cellKinds_one hk
  rw [runPure_bind, runPure_underlying hd, Option.bind_some]
  have now : ∀ c, ks = [c] → aggT P kt = false → (∀ x : Value, eqC c k x = none ∨ Instr.sameNow d k x = eqC c k x) → Instr.findNow d k es 0 = some (r.bind fun j => (es[j]?).map fun e => (j, e.val)) := by
    rintro c rfl ha hc
    rw [ha] at h hkf
    have := find_now hc (okKey_f hkf) es 0 r h
    simpa using this
  simp only [cellKinds, hd] at hk
  cases d with
  | bool =>
    simp at hk
    rw [now _ hk.symm (by simp [aggT, hd]) fun x => ?_]
    · rfl
    · cases k <;> cases x <;> simp [eqC, Instr.sameNow]
  | int kk =>
    simp at hk
    rw [now _ hk.symm (by simp [aggT, hd]) fun x => ?_]
    · rfl
    · cases k <;> cases x <;> simp [eqC, Instr.sameNow]
      rename_i k1 a k2 b
      by_cases e1 : k1 = kk <;> by_cases e2 : k2 = kk <;> simp [e1, e2]
  | string =>
    simp at hk
    rw [now _ hk.symm (by simp [aggT, hd]) fun x => ?_]
    · rfl
    · cases k <;> cases x <;> simp [eqC, Instr.sameNow]
  | struct fs =>
    cases es with
    | nil => simp [keyFind] at h; subst h; rfl
    | cons e es =>
      have : Instr.findNow (.struct fs) k (e :: es) 0 = none := by
        have hs : ∀ x, Instr.sameNow (.struct fs) k x = none := fun x => by cases k <;> cases x <;> rfl
        simp [Instr.findNow, hs]
      rw [this]
      exact hask
  | _ => simp at hk
theorem sameBits_C {c : CK} {x y : Value} (h : eqC c x y = some true) (n : Nat) : Instr.sameBits n x y = true := by
  unfold eqC at h
  split at h
  · simp at h; subst h; cases n <;> simp [Instr.sameBits]
  · split at h
    · rename_i hk; simp at h; obtain ⟨rfl, rfl⟩ := hk; subst h; cases n <;> simp [Instr.sameBits]
    · cases h
  · have he : ∀ a b : ByteArray, some (a == b) = some true → ∀ n, Instr.sameBits n (.string a) (.string b) = true := fun a b h n => by
      cases n <;> simpa [Instr.sameBits] using h
    exact he _ _ h n
  · cases h
theorem sameBits_L {ks : List CK} : ∀ {xs ys : List Value}, eqK ks xs ys = some true → ∀ n, ((xs.zip ys).all fun p => Instr.sameBits n p.1 p.2) = true := by
  induction ks with
  | nil => intro xs ys h n; cases xs <;> cases ys <;> simp [eqK] at h ⊢
  | cons c ks ih =>
    intro xs ys h n
    cases xs with
    | nil => simp [eqK] at h
    | cons x xs =>
      cases ys with
      | nil => simp [eqK] at h
      | cons y ys =>
        simp only [eqK] at h
        cases h1 : eqC c x y with
        | none => simp [h1, andO] at h
        | some b1 =>
          cases h2 : eqK ks xs ys with
          | none => simp [h1, h2, andO] at h
          | some b2 =>
            simp [h1, h2, andO] at h
            obtain ⟨rfl, rfl⟩ := h
            simp only [List.zip_cons_cons, List.all_cons, Bool.and_eq_true]
            exact ⟨sameBits_C h1 n, ih h2 n⟩
theorem sameBits_key {ag : Bool} {ks : List CK} {x y : Value} (hx : okKey ag x = true) (hy : okKey ag y = true) (h : eqK ks x.cells.toList y.cells.toList = some true) : Instr.sameBits 10000 x y = true := by
  cases ag with
  | true =>
    obtain ⟨a, rfl⟩ := okKey_t hx
    obtain ⟨b, rfl⟩ := okKey_t hy
    obtain ⟨l1, l2⟩ := eqK_len h
    simp only [Value.cells] at h l1 l2
    have hs : a.size = b.size := by simpa using l1.trans l2.symm
    show (a.size == b.size && (a.toList.zip b.toList).all fun (p : Value × Value) => Instr.sameBits 9999 p.1 p.2) = true
    rw [sameBits_L h, hs]
    simp
  | false =>
    rw [okKey_f hx, okKey_f hy] at h
    have := sameBits_L h 10000
    simpa using this
theorem check_key (emp : Bool) : ∀ (f : Nat) (d : Nat) (t : TypeId) (ks : List CK) (xs : List Value), f ≤ d → cellKinds P f t = some ks → xs.length = ks.length → runPure P (Instr.checkKey emp d t (ofCells (aggT P t) xs)) = some ()
  | 0, _, _, _, _, _, h, _ => by simp [cellKinds] at h
  | f + 1, 0, _, _, _, hd, _, _ => by omega
  | f + 1, d + 1, t, ks, xs, hd, hk, hl => by
    simp only [cellKinds] at hk
    cases hu : P.underlying t with
    | none => rw [hu] at hk; simp at hk
    | some ty =>
      rw [hu] at hk
      unfold Instr.checkKey
      rw [runPure_bind, runPure_underlying hu, Option.bind_some]
      cases ty with
      | bool => rfl
      | int k => rfl
      | string => rfl
      | struct fs =>
        simp only at hk
        split at hk
        · have ha : aggT P t = true := by simp [aggT, hu]
          rw [ha]
          simp only [ofCells, if_true]
          rw [← Array.forIn_toList]
          have key : ∀ (l : List Field) (o : Nat) (ls : List CK), fieldKinds P (cellKinds P f) o l = some ls → xs.length = o + ls.length →
              runPure P (forIn l PUnit.unit fun fd (_ : PUnit) => do
                if fd.name ≠ "_" then Instr.checkKey emp d fd.type (← part fd.type xs.toArray fd.offset)
                pure (ForInStep.yield PUnit.unit)) = some PUnit.unit := by
            intro l
            induction l with
            | nil => intro o ls h1 h2; rfl
            | cons fd l ih =>
              intro o ls h1 h2
              simp only [fieldKinds] at h1
              split at h1
              · rename_i k1 k2 hk1 hk2
                split at h1
                · rename_i hc
                  cases h1
                  obtain ⟨⟨dd, hdd⟩, hone⟩ := cellKinds_one hk1
                  have hcs : P.cellsOf fd.type = k1.length := by
                    have := hc.2.2.1
                    unfold sizeT at this
                    unfold Program.cellsOf
                    rw [this]
                    rfl
                  rw [hcs] at hk2
                  simp only [List.length_append] at h2
                  have q1 : o + k1.length ≤ xs.length := by omega
                  rw [List.forIn_cons]
                  simp only [if_pos hc.2.1, runPure_bind, hc.1]
                  rw [runPure_part (xs := xs.toArray) hdd hc.2.2.1 (by simpa using q1) hone]
                  simp only [Option.bind_some]
                  rw [check_key emp f d fd.type k1 _ (by omega) hk1 (by simp; omega)]
                  simp only [Option.bind_some, runPure_pure]
                  exact ih _ k2 hk2 (by omega)
                · cases h1
              · cases h1
          have := key fs.toList 0 ks hk (by omega)
          first
            | exact this
            | (rw [runPure_bind]; rw [show _ = some PUnit.unit from this]; rfl)
        · cases hk
      | _ => simp at hk
theorem kvOf_ok {ag : Bool} {x : V} {v : Value} (h : kvOf ag x = some v) : okKey ag v = true := by
  unfold kvOf at h
  split at h
  · split at h
    · rename_i hk; cases h; exact hk
    · cases h
  · split at h
    · rename_i ha
      rw [Option.map_eq_some_iff] at h
      obtain ⟨l, _, rfl⟩ := h
      simp [okKey, ha]
    · cases h
  · cases h
theorem kvOf_rep {I : Imm} {w : World} {γ : Places} {ag : Bool} {x : V} {v u : Value} (h : kvOf ag x = some v) (hr : Rep I w γ x u) : u = v := by
  unfold kvOf at h
  split at h
  · split at h
    · cases h; exact hr.sc_eq
    · cases h
  · split at h
    · rename_i cs ha
      exact hr.conc (by simpa [V.conc] using h)
    · cases h
  · cases h
section
variable {C : Ctx} {γ : Places} {I : Imm} {τ : Nat → V} {H : Heap} {tm : Array Value} {w : World}
theorem map_at (hS : Sim C γ I τ H tm w) {id : Nat} {keys : List Value} {vs : List V} (hH : H id = .ext (.map keys vs)) {u : Value} (hu : Rep I w γ (.mapr id) u) :
    ∃ p ents clock, γ id = some p ∧ u = .map (some p.blk) ∧ w.heap[p.blk]? = some (.map ents clock) ∧ ExtAt γ I w id (.map keys vs) p ∧ keys.length = vs.length ∧ ents.toList.map (·.key) = keys ∧ Stamped ents clock ∧
      ∀ (j : Nat) (x : V) (e : MapEntry), vs[j]? = some x → ents[j]? = some e → Rep I w γ x e.val := by
  obtain ⟨p, hat⟩ := hS.ext id _ hH
  obtain ⟨h1, h2, o, h3, ents, clock, rfl, h4, h5, h6, h7⟩ := hat
  cases hu with
  | mapr _ _ q hq =>
    rw [h1] at hq
    cases hq
    exact ⟨p, ents, clock, h1, rfl, h3, ⟨h1, h2, _, h3, ents, clock, rfl, h4, h5, h6, h7⟩, h4, h5, h6, h7⟩
theorem map_held (hS : Sim C γ I τ H tm w) {x : V} {keys : List Value} {vs : List V} (hH : mapOf H x = some (keys, vs)) {u : Value} (hu : Rep I w γ x u) :
    ∃ r ents clock, u = .map (some r) ∧ w.heap[r]? = some (.map ents clock) ∧ keys.length = vs.length ∧ ents.toList.map (·.key) = keys ∧
      ∀ (j : Nat) (x : V) (e : MapEntry), vs[j]? = some x → ents[j]? = some e → Rep I w γ x e.val := by
  cases x with
  | mapr id =>
    simp only [mapOf] at hH
    split at hH
    · rename_i k v hh
      cases hH
      obtain ⟨p, ents, clock, q1, q2, q3, q4, q5, q6, q7, q8⟩ := map_at hS hh hu
      exact ⟨p.blk, ents, clock, q2, q3, q5, q6, q8⟩
    · cases hH
  | mapf ks vs' =>
    simp only [mapOf, Option.some.injEq, Prod.mk.injEq] at hH
    obtain ⟨rfl, rfl⟩ := hH
    cases hu with
    | mapf _ _ _ r clock ents hI hr hl hk h =>
      exact ⟨r, ents, clock, rfl, hr, hl, hk, fun j x e hx he => (h j x e hx he).mono (Pres.refl _ _) (fun _ _ h => h) (by simp [noPlaces])⟩
  | _ => cases hH
theorem mapKV_facts {t kt et : TypeId} {ks : List CK} (h : mapKV P t = some (kt, et, ks)) : P.underlying t = some (.map kt et) ∧ cellKinds P 8 kt = some ks := by
  unfold mapKV at h
  split at h
  · rename_i kt' et' hu
    rw [Option.map_eq_some_iff] at h
    obtain ⟨ks', h1, h2⟩ := h
    cases h2
    exact ⟨hu, h1⟩
  · cases h
theorem idx_facts {kt : TypeId} {ks : List CK} {kv : Value} {keys : List Value} {r : Option Nat} (hk : cellKinds P 8 kt = some ks) (hkv : okKey (aggT P kt) kv = true) (h : idxOf P kt ks kv keys = some r) (w : World) (emp : Bool) {es : List MapEntry} (hes : es.map (·.key) = keys) :
    (Instr.checkKey emp 10000 kt kv).run P w = .ok () w ∧ (Instr.findKey kt kv es).run P w = .ok (r.bind fun j => (es[j]?).map fun e => (j, e.val)) w := by
  unfold idxOf at h
  split at h
  · rename_i hl
    refine ⟨runPure_run ?_ w, runPure_run (find_key hk hkv (by rw [hes]; exact h)) w⟩
    have := check_key (P := P) emp 8 10000 kt ks kv.cells.toList (by omega) hk (by simpa using hl)
    rwa [← okKey_fits hkv] at this
  · cases h
end
structure MS where
  τ : Nat → V
  H : Heap
  n : Nat
def OpM (P : Program) (C : Ctx) (o : Oper) (s : MS) (K : V → MS → Prop) : Prop :=
  ∀ (tm : Array Value) (ds : List Deferred) (w : World) (γ : Places) (I : Imm), Sim C γ I s.τ s.H tm w →
    (∃ u w' v s' γ' I', (execOp (Act.eval ⟨tm, ds⟩) o).run P w = .ok (.value u) w' ∧ K v s' ∧ Sim C γ' I' s.τ s'.H tm w' ∧ Rep I' w' γ' v u) ∨
    (∃ w' s' γ' I', (execOp (Act.eval ⟨tm, ds⟩) o).run P w = .ok .skip w' ∧ K .any s' ∧ Sim C γ' I' s.τ s'.H tm w')
theorem mapLook_sound {C : Ctx} {s : MS} {o : Oper} {t : TypeId} {m k : Operand} {b : Bool} (ho : o.op = .lookup t m k b) {v : V} {δ : List (Nat × Obj)} (h : mapLook P s.H t (opd s.τ m) (opd s.τ k) b = some (v, δ)) :
    OpM P C o s fun v' s' => v' = v ∧ s' = ⟨s.τ, putH s.H δ, s.n⟩ := by
  intro tm ds w γ I hS
  unfold mapLook at h
  split at h
  · rename_i kt et ks hkv
    obtain ⟨hu, hk⟩ := mapKV_facts hkv
    split at h
    · rename_i keys vs kv hH hkv'
      have hmr := hS.opd ds m
      obtain ⟨r0, ents, clock, q2, q3, q5, q6, q8⟩ := map_held hS hH hmr
      have hkr := kvOf_rep hkv' (hS.opd ds k)
      have hok := kvOf_ok hkv'
      have run : ∀ r, idxOf P kt ks kv keys = some r → ∀ u, (∀ z, r = none → zeroT P et = some z → u = (if b then .tuple #[z, .bool false] else z)) → (∀ j e, r = some j → ents[j]? = some e → u = (if b then .tuple #[e.val, .bool true] else e.val)) →
          (r = none → ∃ z, zeroT P et = some z) → (∀ j, r = some j → ∃ e, ents[j]? = some e) → (execOp (Act.eval ⟨tm, ds⟩) o).run P w = .ok (.value u) w := by
        intro r hr u h1 h2 h3 h4
        obtain ⟨g1, g2⟩ := idx_facts hk hok hr w ents.isEmpty q6
        simp only [execOp, ho]
        rw [q2, hkr]
        cases r with
        | none =>
          obtain ⟨z, hz⟩ := h3 rfl
          rw [h1 z rfl hz]
          simp only [Option.bind_none] at g2
          simp [Instr.lookup, run_underlying hu, getObj, Sem.run, q3, g1, g2, run_zeroT hz]
        | some j =>
          obtain ⟨e, he⟩ := h4 j rfl
          rw [h2 j e rfl he]
          simp only [Option.bind_some, Array.getElem?_toList, he, Option.map_some] at g2
          simp [Instr.lookup, run_underlying hu, getObj, Sem.run, q3, g1, g2]
      have hsame : ∀ x, (⟨s.τ, s.H, s.n⟩ : MS) = x → s = x := fun x hx => hx
      split at h
      · rename_i i hi
        rw [Option.map_eq_some_iff] at h
        obtain ⟨x, hx, he⟩ := h
        simp only [Prod.mk.injEq] at he
        obtain ⟨rfl, rfl⟩ := he
        have hil : i < ents.toList.length := by
          have h1 : i < vs.length := (List.getElem?_eq_some_iff.1 hx).1
          have h2 : ents.toList.length = keys.length := by rw [← q6]; simp
          omega
        have hil' : i < ents.size := by simpa using hil
        have hent : ents[i]? = some ents[i] := by simp [hil']
        have hrep := q8 i x _ hx hent
        refine .inl ⟨_, w, _, s, γ, I, run (some i) hi (if b then .tuple #[ents[i].val, .bool true] else ents[i].val) (by simp) (fun j e hj he => by cases hj; rw [hent] at he; cases he; rfl) (by simp) (fun j hj => by cases hj; exact ⟨_, hent⟩), ⟨rfl, rfl⟩, hS, ?_⟩
        unfold lookV
        cases b with
        | false => exact hrep
        | true =>
          refine .tup _ _ _ rfl fun j c u hc hu => ?_
          match j with
          | 0 => simp at hc hu; subst hc hu; exact hrep
          | 1 => simp at hc hu; subst hc hu; exact .sc _ _
          | j + 2 => simp at hc
      · rename_i hi
        rw [Option.map_eq_some_iff] at h
        obtain ⟨z, hz, he⟩ := h
        simp only [Prod.mk.injEq] at he
        obtain ⟨rfl, rfl⟩ := he
        refine .inl ⟨_, w, _, s, γ, I, run none hi (if b then .tuple #[z, .bool false] else z) (fun z' _ hz' => by rw [hz] at hz'; cases hz'; rfl) (by simp) (fun _ => ⟨z, hz⟩) (by simp), ⟨rfl, rfl⟩, hS, ?_⟩
        unfold lookV
        cases b with
        | false => exact Rep.ofV z
        | true =>
          refine .tup _ _ _ rfl fun j c u hc hu => ?_
          match j with
          | 0 => simp at hc hu; subst hc hu; exact Rep.ofV z
          | 1 => simp at hc hu; subst hc hu; exact .sc _ _
          | j + 2 => simp at hc
      · cases h
    · cases h
  · cases h
theorem map_set {C : Ctx} {γ : Places} {I : Imm} {τ : Nat → V} {H : Heap} {tm : Array Value} {w : World} (hS : Sim C γ I τ H tm w) {id : Nat} {keys keys' : List Value} {vs vs' : List V} (hH : H id = .ext (.map keys vs)) {p : Place} {ents ents' : Array MapEntry} {clock clock' : Nat}
    (q3 : w.heap[p.blk]? = some (.map ents clock)) (q4 : ExtAt γ I w id (.map keys vs) p) (e1 : keys'.length = vs'.length) (e2 : ents'.toList.map (·.key) = keys') (e3 : Stamped ents' clock')
    (e4 : ∀ (j : Nat) (x : V) (e : MapEntry), vs'[j]? = some x → ents'[j]? = some e → Rep I w γ x e.val) :
    Sim C γ I τ (updH H id (.ext (.map keys' vs'))) tm { w with heap := w.heap.setIfInBounds p.blk (.map ents' clock') } :=
  hS.setExt hH q4 (fun c t m h => by rw [q3] at h; cases h) fun w' hp => ⟨ents', clock', rfl, e1, e2, e3, fun j x e hx he => (e4 j x e hx he).mono hp (fun _ _ h => h) fun _ _ h => h⟩
theorem run_getMap {w : World} {r : Nat} {es : Array MapEntry} {clock : Nat} (h : w.heap[r]? = some (.map es clock)) : (getObj r).run P w = .ok (.map es clock) w := by
  simp [getObj, Sem.run, h]
theorem run_setMap {w : World} {r : Nat} {es : Array MapEntry} {clock : Nat} (h : w.heap[r]? = some (.map es clock)) (o : Go.Obj) : (setObj r o).run P w = .ok () { w with heap := w.heap.setIfInBounds r o } := by
  simp [setObj, Sem.run, h]
theorem modify_at {ents : Array MapEntry} {i : Nat} {e : MapEntry} (he : ents[i]? = some e) (f : MapEntry → MapEntry) : ents.modify i f = ents.setIfInBounds i (f e) := by
  obtain ⟨hi, rfl⟩ := Array.getElem?_eq_some_iff.1 he
  apply Array.ext
  · simp
  · intro j h1 h2
    rw [Array.getElem_modify, Array.getElem_setIfInBounds (by simpa using h1)]
    by_cases e : i = j
    · subst e; simp
    · simp [e]
theorem mapPut_sound {C : Ctx} {s : MS} {o : Oper} {t : TypeId} {m k x : Operand} (ho : o.op = .mapUpdate t m k x) {v : V} {δ : List (Nat × Obj)} (h : mapPut P s.H t (opd s.τ m) (opd s.τ k) (opd s.τ x) = some (v, δ)) :
    OpM P C o s fun v' s' => v' = v ∧ s' = ⟨s.τ, putH s.H δ, s.n⟩ := by
  intro tm ds w γ I hS
  unfold mapPut at h
  split at h
  · rename_i kt et ks hkv
    obtain ⟨hu, hk⟩ := mapKV_facts hkv
    split at h
    · rename_i id hm
      split at h
      · rename_i keys vs kv hH hkv'
        have hmr := hS.opd ds m
        rw [hm] at hmr
        obtain ⟨p, ents, clock, q1, q2, q3, q4, q5, q6, q7, q8⟩ := map_at hS hH hmr
        have hkr := kvOf_rep hkv' (hS.opd ds k)
        have hok := kvOf_ok hkv'
        have hxr := hS.opd ds x
        have hlen : ents.size = keys.length := by rw [← q6]; simp
        have hlt : p.blk < w.heap.size := (Array.getElem?_eq_some_iff.1 q3).1
        split at h
        · rename_i i hi
          cases h
          have hi' := hi
          unfold idxOf at hi'
          split at hi'
          · obtain ⟨y, hy, hyk, hye⟩ := keyFind_eq hi'
            have hil := keyFind_ge hi'
            simp only [Nat.sub_zero] at hy hil
            have hil' : i < ents.size := by omega
            have hent : ents[i]? = some ents[i] := by simp [hil']
            have hkey : ents[i].key = y := by
              have : (ents.toList.map (·.key))[i]? = some y := by rw [q6]; exact hy
              simpa [hent] using this
            obtain ⟨g1, g2⟩ := idx_facts hk hok hi w false q6
            simp only [Option.bind_some, Array.getElem?_toList, hent, Option.map_some] at g2
            have hsame : Instr.sameBits 10000 ents[i].key kv = true := by
              rw [hkey]
              have hsym : ∀ {ks : List CK} {xs ys : List Value}, eqK ks xs ys = some true → eqK ks ys xs = some true := by
                intro ks
                induction ks with
                | nil => intro xs ys h; cases xs <;> cases ys <;> simp [eqK] at h ⊢
                | cons c ks ih =>
                  intro xs ys h
                  cases xs with
                  | nil => simp [eqK] at h
                  | cons a xs =>
                    cases ys with
                    | nil => simp [eqK] at h
                    | cons b ys =>
                      simp only [eqK] at h ⊢
                      cases h1 : eqC c a b with
                      | none => simp [h1, andO] at h
                      | some b1 =>
                        cases h2 : eqK ks xs ys with
                        | none => simp [h1, h2, andO] at h
                        | some b2 =>
                          simp [h1, h2, andO] at h
                          obtain ⟨rfl, rfl⟩ := h
                          rw [ih h2]
                          have : eqC c b a = some true := by
                            unfold eqC at h1 ⊢
                            split at h1
                            · simp at h1 ⊢; exact h1.symm
                            · split at h1
                              · rename_i hk; rw [if_pos ⟨hk.2, hk.1⟩]; simp at h1 ⊢; exact h1.symm
                              · cases h1
                            · rename_i a b
                              have e1 : ∀ a b : ByteArray, (a == b) = true ↔ a = b := fun a b => by
                                cases a with | mk x => cases b with | mk y =>
                                have e : ((⟨x⟩ : ByteArray) == ⟨y⟩) = (x == y) := rfl
                                rw [e]; simp
                              simp only [Option.some.injEq] at h1 ⊢
                              rw [e1] at h1 ⊢
                              exact h1.symm
                            · cases h1
                          rw [this]; rfl
              exact sameBits_key hyk hok (hsym hye)
            refine .inr ⟨_, _, γ, I, ?_, ⟨rfl, rfl⟩, map_set hS hH q3 q4 (ents' := ents.setIfInBounds i { ents[i] with key := kv, val := (Act.eval ⟨tm, ds⟩ x) }) (clock' := clock) (by simp [q5]) ?_ ?_ ?_⟩
            · simp only [execOp, ho]
              rw [q2, hkr]
              have hks : ∀ w, (Instr.keyThatStays ents[i].key kv).run P w = .ok kv w := fun w => by simp [Instr.keyThatStays, hsame]
              simp only [Instr.mapUpdate, Sem.run_bind, run_underlying hu, Result.andThen_ok, run_getMap q3, g1, g2, hent, Option.map_some, Option.getD_some, hks, modify_at hent, run_setMap q3, Sem.run_pure]
            · rw [Array.toList_setIfInBounds, List.map_set, q6]
            · refine ⟨fun e he => ?_, ?_⟩
              · rw [Array.mem_iff_getElem?] at he
                obtain ⟨j, hj⟩ := he
                rw [Array.getElem?_setIfInBounds] at hj
                by_cases e' : i = j
                · subst e'
                  rw [if_pos rfl, if_pos hil'] at hj
                  cases hj
                  exact q7.1 ents[i] (Array.mem_of_getElem? hent)
                · rw [if_neg e'] at hj
                  exact q7.1 e (Array.mem_of_getElem? hj)
              · have : (ents.setIfInBounds i { ents[i] with key := kv, val := (Act.eval ⟨tm, ds⟩ x) }).toList.map (·.born) = ents.toList.map (·.born) := by
                  rw [Array.toList_setIfInBounds, List.map_set]
                  apply List.ext_getElem?
                  intro j
                  rw [List.getElem?_set]
                  split
                  · rename_i e'; subst e'; simp [hil']
                  · rfl
                rw [this]
                exact q7.2
            · intro j y e hy' he
              rw [Array.getElem?_setIfInBounds] at he
              rw [List.getElem?_set] at hy'
              by_cases e' : i = j
              · subst e'
                simp [hil'] at he
                subst he
                have : i < vs.length := by omega
                simp [this] at hy'
                subst hy'
                exact hxr
              · simp [e'] at he hy'
                exact q8 j y e hy' he
          · cases hi'
        · rename_i hi
          cases h
          obtain ⟨g1, g2⟩ := idx_facts hk hok hi w false q6
          simp only [Option.bind_none] at g2
          refine .inr ⟨_, _, γ, I, ?_, ⟨rfl, rfl⟩, map_set hS hH q3 q4 (ents' := ents.push { key := kv, val := (Act.eval ⟨tm, ds⟩ x), born := clock }) (clock' := clock + 1) (by simp [q5]) ?_ ?_ ?_⟩
          · simp only [execOp, ho]
            rw [q2, hkr]
            simp only [Instr.mapUpdate, Sem.run_bind, run_underlying hu, Result.andThen_ok, run_getMap q3, g1, g2, run_setMap q3, Sem.run_pure]
          · simp [q6]
          · refine ⟨fun e he => ?_, ?_⟩
            · rw [Array.mem_push] at he
              rcases he with he | rfl
              · have := q7.1 e he; omega
              · simp
            · simp only [Array.toList_push, List.map_append, List.map_cons, List.map_nil]
              refine List.nodup_append.2 ⟨q7.2, by simp, ?_⟩
              intro a ha b hb
              obtain ⟨e, he, rfl⟩ := List.mem_map.1 ha
              have := q7.1 e (by simpa using he)
              simp at hb
              omega
          · intro j y e hy' he
            by_cases hj : j < ents.size
            · rw [Array.getElem?_push_lt hj] at he
              rw [List.getElem?_append_left (by omega)] at hy'
              exact q8 j y e hy' (by simpa [hj] using he)
            · rw [List.getElem?_append_right (by omega)] at hy'
              have hj' : j = ents.size := by
                have := (List.getElem?_eq_some_iff.1 hy').1
                simp at this
                omega
              subst hj'
              simp at he
              subst he
              have : ents.size - vs.length = 0 := by omega
              rw [this] at hy'
              simp at hy'
              subst hy'
              exact hxr
        · cases h
      · cases h
    · cases h
  · cases h
theorem mapMake_sound {C : Ctx} {s : MS} {o : Oper} {t : TypeId} {r : Option Operand} (ho : o.op = .makeMap t r) {v : V} {δ : List (Nat × Obj)} (h : mapMake P s.n s.H t (r.map (opd s.τ)) = some (v, δ)) :
    OpM P C o s fun v' s' => v' = v ∧ s' = ⟨s.τ, putH s.H δ, s.n⟩ := by
  intro tm ds w γ I hS
  unfold mapMake at h
  split at h
  · rename_i kv hkv
    obtain ⟨kt, et, ks⟩ := kv
    obtain ⟨hu, hk⟩ := mapKV_facts hkv
    have fin : s.H s.n = .unborn → (execOp (Act.eval ⟨tm, ds⟩) o).run P w = .ok (.value (.map (some w.heap.size))) (w.alloc (.map #[] 0)) → (v, δ) = (V.mapr s.n, [(s.n, Obj.ext (.map [] []))]) →
        (∃ u w' v' s' γ' I', (execOp (Act.eval ⟨tm, ds⟩) o).run P w = .ok (.value u) w' ∧ (v' = v ∧ s' = (⟨s.τ, putH s.H δ, s.n⟩ : MS)) ∧ Sim C γ' I' s.τ s'.H tm w' ∧ Rep I' w' γ' v' u) := by
      intro hn hrun he
      cases he
      have := hS.bornExt hn (x := .map [] []) (o := .map #[] 0) fun γ' w' _ _ => ⟨#[], 0, rfl, rfl, rfl, ⟨by simp, by simp⟩, by simp⟩
      exact ⟨_, _, _, _, _, I, hrun, ⟨rfl, rfl⟩, this, .mapr _ _ ⟨w.heap.size, 0, 0⟩ (by simp [updP])⟩
    split at h
    · rename_i hr
      split at h
      · rename_i hn
        refine .inl (fin hn ?_ (by simpa using h.symm))
        have : r = none := by simpa using hr
        subst this
        simp only [execOp, ho]
        simp [Instr.makeMap, newObj, Sem.run]
        try rfl
      · cases h
    · rename_i kk nn hr
      split at h
      · rename_i hn
        refine .inl (fin hn ?_ (by simpa using h.symm))
        obtain ⟨y, hy, hyv⟩ := Option.map_eq_some_iff.1 hr
        subst hy
        have hyr := hS.opd ds y
        rw [hyv] at hyr
        have := hyr.sc_eq
        simp only [execOp, ho, Option.map_some]
        rw [this]
        simp [Instr.makeMap, newObj, Sem.run, run_underlying hu, asInt]
        try rfl
      · cases h
    · cases h
  · cases h
theorem mapLen_sound {C : Ctx} {s : MS} {o : Oper} {c : Call} {t : TypeId} {m : Operand} (ho : o.op = .call c) (hc : c.callee = .builtin .len) (hargs : c.args.toList = [m]) (hts : c.argTypes.toList = [t]) {v : V} {δ : List (Nat × Obj)} (h : mapLen P s.H t (opd s.τ m) = some (v, δ)) :
    OpM P C o s fun v' s' => v' = v ∧ s' = ⟨s.τ, putH s.H δ, s.n⟩ := by
  intro tm ds w γ I hS
  have h1 : c.args = #[m] := by rw [← Array.toArray_toList (xs := c.args), hargs]
  have h2 : c.argTypes = #[t] := by rw [← Array.toArray_toList (xs := c.argTypes), hts]
  unfold mapLen at h
  split at h
  · rename_i kt et hu
    split at h
    · rename_i keys vs hH
      cases h
      have hmr := hS.opd ds m
      obtain ⟨r0, ents, clock, q2, q3, q5, q6, q8⟩ := map_held hS hH hmr
      have hlen : ents.size = keys.length := by rw [← q6]; simp
      refine .inl ⟨.int .i64 (keys.length : Int), w, _, s, γ, I, ?_, ⟨rfl, rfl⟩, hS, .sc _ _⟩
      have : Act.eval ⟨tm, ds⟩ m = .map (some r0) := q2
      simp [execOp, ho, resolve, hc, h1, h2, invoke, builtin, Builtin.len_, run_underlying hu, this, run_getMap q3, goInt, hlen]
    · cases h
  · cases h
theorem map_erase {α β : Type} (f : α → β) : ∀ (l : List α) (i : Nat), (l.eraseIdx i).map f = (l.map f).eraseIdx i
  | [], _ => rfl
  | _ :: _, 0 => rfl
  | a :: l, i + 1 => by simp [map_erase f l i]
theorem mapDel_sound {C : Ctx} {s : MS} {o : Oper} {c : Call} {t t' : TypeId} {m k : Operand} (ho : o.op = .call c) (hc : c.callee = .builtin .delete) (hargs : c.args.toList = [m, k]) (hts : c.argTypes.toList = [t, t']) {v : V} {δ : List (Nat × Obj)} (h : mapDel P s.H t (opd s.τ m) (opd s.τ k) = some (v, δ)) :
    OpM P C o s fun v' s' => v' = v ∧ s' = ⟨s.τ, putH s.H δ, s.n⟩ := by
  intro tm ds w γ I hS
  have h1 : c.args = #[m, k] := by rw [← Array.toArray_toList (xs := c.args), hargs]
  have h2 : c.argTypes = #[t, t'] := by rw [← Array.toArray_toList (xs := c.argTypes), hts]
  unfold mapDel at h
  split at h
  · rename_i kt et ks hkv
    obtain ⟨hu, hk⟩ := mapKV_facts hkv
    split at h
    · rename_i id hm
      split at h
      · rename_i keys vs kv hH hkv'
        have hmr := hS.opd ds m
        rw [hm] at hmr
        obtain ⟨p, ents, clock, q1, q2, q3, q4, q5, q6, q7, q8⟩ := map_at hS hH hmr
        have hkr := kvOf_rep hkv' (hS.opd ds k)
        have hok := kvOf_ok hkv'
        have hlen : ents.size = keys.length := by rw [← q6]; simp
        split at h
        · rename_i i hi
          cases h
          obtain ⟨g1, g2⟩ := idx_facts hk hok hi w ents.isEmpty q6
          have hi' := hi
          unfold idxOf at hi'
          split at hi'
          · have hil := keyFind_ge hi'
            simp only [Nat.sub_zero] at hil
            have hil' : i < ents.size := by omega
            have hent : ents[i]? = some ents[i] := by simp [hil']
            simp only [Option.bind_some, Array.getElem?_toList, hent, Option.map_some] at g2
            have herase : (ents.eraseIdxIfInBounds i).toList = ents.toList.eraseIdx i := by
              simp [Array.eraseIdxIfInBounds, hil']
            refine .inl ⟨.tuple #[], _, _, _, γ, I, ?_, ⟨rfl, rfl⟩, map_set hS hH q3 q4 (ents' := ents.eraseIdxIfInBounds i) (clock' := clock) (keys' := keys.eraseIdx i) (vs' := vs.eraseIdx i) ?_ ?_ ?_ ?_, .sc _ _⟩
            · simp only [execOp, ho, resolve, hc, h1, h2, List.map_toArray, List.map_cons, List.map_nil, invoke, builtin, Builtin.delete_]
              have e1 : Act.eval ⟨tm, ds⟩ m = .map (some p.blk) := q2
              simp [run_underlying hu, e1, hkr, run_getMap q3, g1, g2, run_setMap q3]
            · simp [List.length_eraseIdx, q5]
            · rw [herase, ← q6, map_erase]
            · refine ⟨fun e he => ?_, ?_⟩
              · have : e ∈ ents.toList.eraseIdx i := by rw [← herase]; exact Array.mem_toList_iff.2 he
                exact q7.1 e (by simpa using List.mem_of_mem_eraseIdx this)
              · rw [herase, map_erase]
                exact q7.2.sublist (List.eraseIdx_sublist _ _)
            · intro j x e hx he
              rw [← Array.getElem?_toList, herase, List.getElem?_eraseIdx] at he
              rw [List.getElem?_eraseIdx] at hx
              split at he
              · rename_i hj; rw [if_pos hj] at hx; exact q8 _ x e hx (by simpa using he)
              · rename_i hj; rw [if_neg hj] at hx; exact q8 _ x e hx (by simpa using he)
          · cases hi'
        · rename_i hi
          cases h
          obtain ⟨g1, g2⟩ := idx_facts hk hok hi w ents.isEmpty q6
          simp only [Option.bind_none] at g2
          refine .inl ⟨.tuple #[], _, _, _, γ, I, ?_, ⟨rfl, rfl⟩, map_set hS hH q3 q4 (ents' := ents) (clock' := clock) (keys' := keys) (vs' := vs) q5 q6 q7 q8, .sc _ _⟩
          simp only [execOp, ho, resolve, hc, h1, h2, List.map_toArray, List.map_cons, List.map_nil, invoke, builtin, Builtin.delete_]
          have e1 : Act.eval ⟨tm, ds⟩ m = .map (some p.blk) := q2
          simp [run_underlying hu, e1, hkr, run_getMap q3, g1, g2, run_setMap q3]
        · cases h
      · cases h
    · cases h
  · cases h
theorem mapEv_sound {C : Ctx} {s : MS} {o : Oper} {v : V} {δ : List (Nat × Obj)} (h : mapEv P s.n (opd s.τ) s.H o = some (v, δ)) :
    OpM P C o s fun v' s' => v' = v ∧ s' = ⟨s.τ, putH s.H δ, s.n⟩ := by
  unfold mapEv at h
  split at h
  · rename_i t r ho; exact mapMake_sound ho h
  · rename_i t m k x ho; exact mapPut_sound ho h
  · rename_i t m k b ho; exact mapLook_sound ho h
  · rename_i c ho
    split at h
    · rename_i x t hc ha ht; exact mapLen_sound ho hc ha ht h
    · rename_i x y t t' hc ha ht; exact mapDel_sound ho hc ha ht h
    · cases h
  · cases h
theorem only_ext {ids : List Nat} {H : Heap} {id : Nat} {x : Ext} (h : only ids H id = .ext x) : H id = .ext x := by
  unfold only at h
  split at h
  · exact h
  · cases h
theorem only_unb {ids : List Nat} {H : Heap} {id : Nat} (h : only ids H id = .unborn) : H id = .unborn := by
  unfold only at h
  split at h
  · exact h
  · cases h
theorem mapOf_only {ids : List Nat} {H : Heap} {x : V} {r : List Value × List V} (h : mapOf (only ids H) x = some r) : mapOf H x = some r := by
  cases x with
  | mapr id =>
    simp only [mapOf] at h ⊢
    cases h3 : only ids H id with
    | ext x => rw [h3] at h; rw [only_ext h3]; exact h
    | _ => rw [h3] at h; cases h
  | mapf => exact h
  | _ => cases h
theorem mapEv_of_only {ids : List Nat} {n : Nat} {ρ : Operand → V} {H : Heap} {o : Oper} {r : V × List (Nat × Obj)} (h : mapEv P n ρ (only ids H) o = some r) : mapEv P n ρ H o = some r := by
  unfold mapEv at h ⊢
  split at h
  · rename_i t r' _
    unfold mapMake at h ⊢
    cases h1 : mapKV P t with
    | none => simp [h1] at h
    | some q =>
      simp only [h1] at h ⊢
      generalize r'.map ρ = vr at h ⊢
      have key : ∀ {f : Option (V × List (Nat × Obj))}, (match only ids H n with | .unborn => f | _ => none) = some r → (match H n with | .unborn => f | _ => none) = some r := fun {f} hh => by
        cases h3 : only ids H n with
        | unborn => rw [h3] at hh; rw [only_unb h3]; exact hh
        | _ => rw [h3] at hh; cases hh
      cases vr with
      | none => exact key h
      | some v =>
        cases v with
        | sc u => cases u <;> first | (cases h; done) | exact key h
        | _ => cases h
  · rename_i t m k x _
    unfold mapPut at h ⊢
    cases h1 : mapKV P t with
    | none => simp [h1] at h
    | some q =>
      obtain ⟨kt, et, ks⟩ := q
      simp only [h1] at h ⊢
      generalize ρ m = vm at h ⊢
      cases vm with
      | mapr id =>
        simp only at h ⊢
        cases h3 : only ids H id with
        | ext x => rw [h3] at h; rw [only_ext h3]; exact h
        | _ => rw [h3] at h; cases h
      | _ => cases h
  · rename_i t m k b _
    unfold mapLook at h ⊢
    cases h1 : mapKV P t with
    | none => simp [h1] at h
    | some q =>
      obtain ⟨kt, et, ks⟩ := q
      simp only [h1] at h ⊢
      cases h3 : mapOf (only ids H) (ρ m) with
      | none => rw [h3] at h; cases h
      | some q => rw [h3] at h; rw [mapOf_only h3]; exact h
  · split at h
    · rename_i x t _ _ _
      unfold mapLen at h ⊢
      cases h1 : P.underlying t with
      | none => simp [h1] at h
      | some d =>
        cases d with
        | map kt et =>
          simp only [h1] at h ⊢
          cases h3 : mapOf (only ids H) (ρ x) with
          | none => rw [h3] at h; cases h
          | some q => rw [h3] at h; rw [mapOf_only h3]; exact h
        | _ => rw [h1] at h; cases h
    · rename_i x y t _ _ _ _
      unfold mapDel at h ⊢
      cases h1 : mapKV P t with
      | none => simp [h1] at h
      | some q =>
        obtain ⟨kt, et, ks⟩ := q
        simp only [h1] at h ⊢
        generalize ρ x = vm at h ⊢
        cases vm with
        | mapr id =>
          simp only at h ⊢
          cases h3 : only ids H id with
          | ext x => rw [h3] at h; rw [only_ext h3]; exact h
          | _ => rw [h3] at h; cases h
        | _ => cases h
    · cases h
  · cases h
theorem lands_map {C : Ctx} {γ : Places} {I : Imm} {τ : Nat → V} {H : Heap} {w : World} {a : Act} {o : Oper} {v : V} {n : Nat} {δ : List (Nat × Obj)} (hS : Sim C γ I τ H a.tmps w) (h : mapEv P n (opd τ) H o = some (v, δ)) : Lands C P o a w τ (putH H δ) v := by
  rcases mapEv_sound (C := C) (s := ⟨τ, H, n⟩) h a.tmps a.defers w γ I hS with ⟨u, w', v', s', γ', I', h1, ⟨rfl, rfl⟩, h3, h4⟩ | ⟨w', s', γ', I', h1, ⟨h2, rfl⟩, h3⟩
  · exact lands_value h1 h3 h4
  · rw [← h2]; exact lands_skip h1 h3
end Go.Idl
