/-
  The ideal evaluator of one operation: what it yields, which objects it makes or changes; of the objects it looks at those alone that 'need' names.
-/
import Derived.Test.YtnafhnnhhdmnfaaIdlA
namespace Go.Idl
set_option linter.all false

inductive Ext where
  | iter (s : ByteArray) (pos : Nat)
  | map (ks : List Value) (vs : List V)

inductive Obj where
  | unborn
  | dead
  | live (sz : Nat) (es : List V) (mu : Bool)
  | ext (x : Ext)

abbrev Heap := Nat → Obj

/-- The contracts of functions: what a call gives for given arguments, where it is known. -/
abbrev Specs := FuncId → Option (List V → Option V)

section
variable (P : Program)
def sizeT (t : TypeId) : Option Nat := (P.info? t).map (·.size)
def zeroT (t : TypeId) : Option Value := (P.info? t).bind (·.zero)
def aggT (t : TypeId) : Bool := match P.underlying t with
  | some (.struct _) => true
  | some (.array _ _) => true
  | _ => false
def elemT (t : TypeId) : Option TypeId := match P.underlying t with
  | some (.slice e) => some e
  | _ => none
def strT (t : TypeId) : Bool := match P.underlying t with
  | some .string => true
  | _ => false
def boolT (t : TypeId) : Bool := match P.underlying t with
  | some .bool => true
  | _ => false
def fieldT (t : TypeId) (f : Nat) : Option Field := match P.underlying t with
  | some (.struct fs) => fs[f]?
  | _ => none
end

def opd (τ : Nat → V) : Operand → V
  | .tmp t => τ t
  | .const v => V.ofV v
  | .global g => .sc (.pointer (some ⟨g, 0, none⟩))
  | .func f => .sc (.func (.func f) #[] #[])

/-- A value of one cell, known as such. -/
def V.cellOk : V → Bool
  | .any => false
  | .tup _ => false
  | .agg _ => false
  | .sc v => v.oneCell'
  | _ => true
/-- One cell, or a whole struct or array: what a variable can hold, known as far as its cells go. -/
def V.solid : V → Bool
  | .agg cs => cs.all V.cellOk
  | v => v.cellOk

/-- Nothing of the call's own in it. -/
def V.isFc : V → Bool
  | .sc v => v.oneCell'
  | .slice _ _ => true
  | .mt => true
  | _ => false
def V.isF : V → Bool
  | .agg cs => cs.all V.isFc
  | v => v.isFc

def V.idsC : V → List Nat
  | .own id _ _ => [id]
  | _ => []
def V.ids : V → List Nat
  | .own id _ _ => [id]
  | .agg cs => cs.flatMap V.idsC
  | _ => []

def freezeC (h : Heap) : V → Option V
  | .own id off len => match h id with
    | .live sz es _ => if off + len ≤ es.length ∧ es.all V.isF = true then some (.slice sz ((es.drop off).take len)) else none
    | _ => none
  | .any => some .any
  | .sc v => some (.sc v)
  | .slice sz es => some (.slice sz es)
  | .elem e off => some (.elem e off)
  | .mt => some .mt
  | _ => none
def freezeL (h : Heap) : List V → Option (List V)
  | [] => some []
  | c :: cs => match freezeC h c, freezeL h cs with
    | some x, some xs => some (x :: xs)
    | _, _ => none
def freeze (h : Heap) : V → Option V
  | .agg cs => (freezeL h cs).map .agg
  | v => freezeC h v
def freezes (h : Heap) : List V → Option (List V)
  | [] => some []
  | c :: cs => match freeze h c, freezes h cs with
    | some x, some xs => some (x :: xs)
    | _, _ => none
/-- What a body hands back: a map is changed no more. -/
def mapR (h : Heap) : V → Option V
  | .mapr id => match h id with
    | .ext (.map ks vs) => if vs.all V.isF = true then some (.mapf ks vs) else none
    | _ => none
  | _ => none
def orO : Option V → Option V → Option V
  | some a, _ => some a
  | none, b => b
def freezeR (h : Heap) (v : V) : Option V := orO (freeze h v) (mapR h v)
def freezesR (h : Heap) : List V → Option (List V)
  | [] => some []
  | c :: cs => match freezeR h c, freezesR h cs with
    | some x, some xs => some (x :: xs)
    | _, _ => none
/-- What becomes of the objects: their elements are written no more. -/
def froze (h : Heap) (ids : List Nat) : List (Nat × Obj) := ids.filterMap fun id => match h id with
  | .live sz es true => if es.all V.isF = true then some (id, .live sz es false) else none
  | _ => none

def readC (P : Program) (t : TypeId) (cells : List V) (off : Nat) : Option V :=
  if aggT P t then (sizeT P t).bind fun n => if off + n ≤ cells.length then some (.agg ((cells.drop off).take n)) else none
  else match P.underlying t with
    | some _ => cells[off]?
    | none => none

def splice (cells : List V) (off : Nat) (new : List V) : List V := cells.take off ++ new ++ cells.drop (off + new.length)
def V.write (e : V) (off : Nat) (x : V) : V := if x.cells.length = e.cells.length then x else .agg (splice e.cells off x.cells)

/-- Of a slice: how many elements. -/
def V.len : V → Option Nat
  | .slice _ es => some es.length
  | .own _ _ len => some len
  | .mt => some 0
  | .sc (.slice _ n _) => some n
  | _ => none
/-- Of a slice of elements of so many cells: what they are. -/
def V.elems (h : Heap) (sz : Nat) : V → Option (List V)
  | .slice s es => if s = sz ∨ es = [] then some es else none
  | .own id off len => match h id with
    | .live s es _ => if s = sz ∧ off + len ≤ es.length then some ((es.drop off).take len) else none
    | _ => none
  | .mt => some []
  | .sc (.slice none 0 0) => some []
  | _ => none

def fillV (place : Nat → Option (Nat × Nat)) (cells : List V) : List (Nat × V) → Option (List V)
  | [] => some cells
  | (i, v) :: rest =>
    match place i with
    | none => none
    | some (off, size) =>
      if v.solid = true ∧ v.cells.length = size ∧ off + size ≤ cells.length then fillV place (splice cells off v.cells) rest else none

/-- The cells, so many at a time, as elements. -/
def chunks (agg : Bool) (sz : Nat) (cells : List V) : Nat → List V
  | 0 => []
  | n + 1 => (if agg then .agg (cells.take sz) else cells.headD .any) :: chunks agg sz (cells.drop sz) n

def evPure (P : Program) (ρ : Operand → V) (o : Oper) : Option (V × List (Nat × Obj)) :=
  if o.op.operands.all (fun x => (ρ x).conc.isSome) then
    match o.op with
    | .select _ _ => none
    | _ => match runPure P (execOp (fun x => ((ρ x).conc).getD undef) o) with
      | some (.value v) => some (V.ofV v, [])
      | _ => none
  else none

def shI (op : BinOp) (k : IntKind) (a b : Int) : Option Value :=
  match op with
  | .shl => if b < 0 then none else some (.int k (k.wrap (a * 2 ^ (min b.toNat k.bits))))
  | .shr => if b < 0 then none else some (.int k (a.fdiv (2 ^ (min b.toNat k.bits))))
  | _ => none
def binI (op : BinOp) (k : IntKind) (a b : Int) : Option Value :=
  match op with
  | .add => some (.int k (k.wrap (a + b)))
  | .sub => some (.int k (k.wrap (a - b)))
  | .mul => some (.int k (k.wrap (a * b)))
  | .quo => if b = 0 then none else some (.int k (k.wrap (a.tdiv b)))
  | .rem => if b = 0 then none else some (.int k (a.tmod b))
  | .eql => some (.bool (a == b))
  | .neq => some (.bool (a != b))
  | .lss => some (.bool (decide (a < b)))
  | .leq => some (.bool (decide (a ≤ b)))
  | .gtr => some (.bool (decide (a > b)))
  | .geq => some (.bool (decide (a ≥ b)))
  | .shl => shI .shl k a b
  | .shr => shI .shr k a b
  | _ => none
def ltS (a b : ByteArray) : Bool := Op.bytesLess a.toList b.toList
def binS (op : BinOp) (a b : ByteArray) : Option Value :=
  match op with
  | .eql => some (.bool (a.toList == b.toList))
  | .neq => some (.bool (!(a.toList == b.toList)))
  | .lss => some (.bool (ltS a b))
  | .leq => some (.bool (ltS a b || (a.toList == b.toList)))
  | .gtr => some (.bool (!(ltS a b || (a.toList == b.toList))))
  | .geq => some (.bool (!ltS a b))
  | .add => if ((a.size + b.size : Nat) : Int) > IntKind.i64.max then none else some (.string (a ++ b))
  | _ => none
def binB (op : BinOp) (a b : Bool) : Option Value :=
  match op with
  | .eql => some (.bool (a == b))
  | .neq => some (.bool (a != b))
  | _ => none
def fastBin (op : BinOp) (isB : Bool) (x y : V) : Option Value :=
  match x, y with
  | .sc (.int k a), .sc (.int k' b) => if k = k' then binI op k a b else shI op k a b
  | .sc (.string a), .sc (.string b) => binS op a b
  | .sc (.bool a), .sc (.bool b) => if isB = true then binB op a b else none
  | _, _ => none
def evBin (P : Program) (ρ : Operand → V) (o : Oper) (op : BinOp) (isB : Bool) (x y : V) : Option (V × List (Nat × Obj)) :=
  match fastBin op isB x y with
  | some v => some (.sc v, [])
  | none => evPure P ρ o
def evUn (P : Program) (ρ : Operand → V) (o : Oper) (op : UnOp) (x : V) : Option (V × List (Nat × Obj)) :=
  match op, x with
  | .not, .sc (.bool b) => some (.sc (.bool (!b)), [])
  | .neg, .sc (.int k n) => some (.sc (.int k (k.wrap (0 - n))), [])
  | _, _ => evPure P ρ o

def bytesOf : List V → Option (List UInt8)
  | [] => some []
  | .sc (.int .u8 n) :: cs => if 0 ≤ n ∧ n < 256 then (bytesOf cs).map (UInt8.ofNat n.toNat :: ·) else none
  | _ => none

def evAlloc (P : Program) (nid : Nat) (h : Heap) (t : TypeId) : Option (V × List (Nat × Obj)) :=
  match h nid, zeroT P t with
  | .unborn, some z => some (.ref nid 0 0, [(nid, .live z.cells.size [V.ofV z] true)])
  | _, _ => none

def evBox (nid : Nat) (h : Heap) (x : V) : Option (V × List (Nat × Obj)) :=
  match h nid with
  | .unborn => if x.solid then some (.ref nid 0 0, [(nid, .live x.cells.length [x] true)]) else none
  | _ => none

def evLoad (P : Program) (h : Heap) (t : TypeId) : V → Option V
  | .ref id idx off => match h id with
    | .live _ es _ => (es[idx]?).bind fun e => readC P t e.cells off
    | _ => none
  | .elem e off => readC P t e.cells off
  | _ => none

def evStore (P : Program) (h : Heap) (t : TypeId) (x : V) : V → Option (List (Nat × Obj))
  | .ref id idx off => match h id with
    | .live sz es true => match es[idx]?, sizeT P t with
      | some e, some n => if x.solid = true ∧ x.cells.length = n ∧ 0 < n ∧ off + n ≤ sz then some [(id, .live sz (es.set idx (e.write off x)) true)] else none
      | _, _ => none
    | _ => none
  | _ => none

def shift (n : Nat) : V → Option V
  | .ref id idx off => some (.ref id idx (off + n))
  | .elem e off => some (.elem e (off + n))
  | _ => none

def evFieldAddr (P : Program) (s : TypeId) (f : Nat) (x : V) : Option V :=
  (fieldT P s f).bind fun fd => if sizeT P fd.type = some 0 ∨ sizeT P fd.type = none then none else shift fd.offset x

def evIndexAddr (P : Program) (h : Heap) (t : TypeId) (x : V) (i : V) : Option V :=
  match i with
  | .sc (.int _ n) => match P.underlying t with
    | some (.slice et) => (sizeT P et).bind fun sz => match x with
      | .slice s es => if s = sz ∧ 0 ≤ n then (es[n.toNat]?).map fun e => .elem e 0 else none
      | .own id off len => match h id with
        | .live s es _ => if s = sz ∧ 0 ≤ n ∧ n < len then some (.ref id (off + n.toNat) 0) else none
        | _ => none
      | _ => none
    | some (.array len et) => (sizeT P et).bind fun sz => if 0 ≤ n ∧ n < len then shift (n.toNat * sz) x else none
    | _ => none
  | _ => none

def evPart (P : Program) (t : TypeId) (cs : List V) (off : Nat) : Option V := readC P t cs off

def evBuild (P : Program) (t : TypeId) (parts : List (Nat × V)) : Option V :=
  (zeroT P t).bind fun z => match P.underlying t with
    | some (.struct fs) => if fs.toList.all (fun f => (sizeT P f.type).isSome) = true then (fillV (fun i => (fs[i]?).bind fun f => (sizeT P f.type).map fun n => (f.offset, n)) (V.ofV z).cells parts).map .agg else none
    | some (.array _ e) => (sizeT P e).bind fun n => (fillV (fun i => some (i * n, n)) (V.ofV z).cells parts).map .agg
    | _ => none

def zeros (z : Value) : Nat → List V
  | 0 => []
  | n + 1 => (V.ofV z).cells ++ zeros z n

def evBuildSlice (P : Program) (nid : Nat) (h : Heap) (t : TypeId) (len : Nat) (parts : List (Nat × V)) : Option (V × List (Nat × Obj)) :=
  match h nid, elemT P t with
  | .unborn, some et => match sizeT P et, zeroT P et with
    | some sz, some z => if z.cells.size = sz ∧ 0 < sz ∧ len * sz ≤ 16777216 then
        (fillV (fun i => some (i * sz, sz)) (zeros z len) parts).bind fun cs => if aggT P et = true ∨ (sz = 1 ∧ cs.all V.cellOk = true) then some (.own nid 0 len, [(nid, .live sz (chunks (aggT P et) sz cs len) true)]) else none
      else none
    | _, _ => none
  | _, _ => none

/-- A part as it is written no more, where it can be. -/
def frz1 (h : Heap) (v : V) : V := (freeze h v).getD v
def addD (d : List (Nat × Obj)) : Option (V × List (Nat × Obj)) → Option (V × List (Nat × Obj))
  | some r => some (r.1, d ++ r.2)
  | none => none
/-- A slice of parts: slices among them are written no more. -/
def evBsl (P : Program) (nid : Nat) (h : Heap) (t : TypeId) (len : Nat) (parts : List (Nat × V)) : Option (V × List (Nat × Obj)) :=
  addD (froze h (parts.flatMap fun p => p.2.ids)) (evBuildSlice P nid h t len (parts.map fun p => (p.1, frz1 h p.2)))

def evMakeSlice (P : Program) (nid : Nat) (h : Heap) (t : TypeId) (l c : V) : Option (V × List (Nat × Obj)) :=
  match h nid, l, c, elemT P t with
  | .unborn, .sc (.int .i64 l), .sc (.int .i64 c), some et => match P.info? et, zeroT P et with
    | some i, some z => if z.cells.size = i.size ∧ 0 < i.size ∧ 0 ≤ l ∧ l ≤ c ∧ c ≤ 4294967296 ∧ i.bytes * c.toNat ≤ 281474976710656 then
        some (.own nid 0 l.toNat, [(nid, .live i.size (List.replicate l.toNat (V.ofV z)) true)])
      else none
    | _, _ => none
  | _, _, _, _ => none

/-- A bound of a slice expression. -/
def bound (d : Nat) : Option V → Option Nat
  | none => some d
  | some (.sc (.int _ n)) => if 0 ≤ n then some n.toNat else none
  | _ => none

def V.isSl : V → Bool
  | .sc _ => false
  | _ => true

def evSliceI (h : Heap) (sz : Nat) (x : V) (lo hi mx : Option V) : Option (V × List (Nat × Obj)) :=
  (x.len).bind fun n =>
  (bound 0 lo).bind fun l => (bound n hi).bind fun r => (bound r mx).bind fun m =>
  if l ≤ r ∧ r ≤ m ∧ m ≤ n then match mx with
    | none => match x with
      | .slice s es => if s = sz then some (.slice sz ((es.take r).drop l), []) else none
      | .own id off _ => match h id with
        | .live s _ _ => if s = sz then some (.own id (off + l) (r - l), []) else none
        | _ => none
      | .mt => some (.mt, [])
      | .sc (.slice none 0 0) => some (.mt, [])
      | _ => none
    | some _ => if hi.isNone = true then none else if x.isSl = true then
        if l = m then some (.mt, []) else match x with
        | .slice s es => if s = sz then some (.slice sz ((es.take r).drop l), []) else none
        | .own id off len => match h id with
          | .live s es _ => if s = sz ∧ off + len ≤ es.length ∧ es.all V.isF = true then some (.slice sz ((es.drop (off + l)).take (r - l)), froze h [id]) else none
          | _ => none
        | _ => none
      else none
  else none

def evSlice (P : Program) (h : Heap) (t : TypeId) (x : V) (lo hi mx : Option V) : Option (V × List (Nat × Obj)) :=
  (elemT P t).bind fun et => (sizeT P et).bind fun sz => evSliceI h sz x lo hi mx

/-- What is appended: elements. -/
def news (h : Heap) (sz : Nat) : V → Option (List V)
  | .sc (.string s) => if sz = 1 then some (s.data.toList.map fun b => .sc (.int .u8 b.toNat)) else none
  | x => x.elems h sz

def evAppend (P : Program) (nid : Nat) (h : Heap) (t : TypeId) (s x : V) : Option (V × List (Nat × Obj)) :=
  match h nid, elemT P t with
  | .unborn, some et => match P.info? et, zeroT P et with
    | some i, some z => if z.cells.size = i.size ∧ 0 < i.size then
      (news h i.size x).bind fun ys => match s with
        | .own id off len => match h id with
          | .live sz es mu => if sz = i.size ∧ off + len = es.length ∧ (len + ys.length) * i.bytes ≤ 68719476736 ∧ len + ys.length ≤ 4294967296 ∧ ys.all (fun y => y.cells.length = sz) = true ∧ ys.all V.isF = true
            then some (.own nid 0 (len + ys.length), [(id, .dead), (nid, .live sz (es.drop off ++ ys) mu)]) else none
          | _ => none
        | .mt => if ys.length * i.bytes ≤ 68719476736 ∧ ys.length ≤ 4294967296 ∧ ys.all (fun y => y.cells.length = i.size) = true ∧ ys.all V.isF = true
            then some (.own nid 0 ys.length, [(nid, .live i.size ys true)]) else none
        | .sc (.slice none 0 0) => if ys.length * i.bytes ≤ 68719476736 ∧ ys.length ≤ 4294967296 ∧ ys.all (fun y => y.cells.length = i.size) = true ∧ ys.all V.isF = true
            then some (.own nid 0 ys.length, [(nid, .live i.size ys true)]) else none
        | _ => none
      else none
    | _, _ => none
  | _, _ => none

def evCall (Φ : Specs) (ρ : Operand → V) (h : Heap) (f : FuncId) (args : List Operand) : Option (V × List (Nat × Obj)) :=
  (Φ f).bind fun F => (freezes h (args.map ρ)).bind fun xs => (F xs).map fun r => (r, froze h ((args.map ρ).flatMap V.ids))

def evOp0 (P : Program) (Φ : Specs) (nid : Nat) (ρ : Operand → V) (h : Heap) (o : Oper) : Option (V × List (Nat × Obj)) :=
  match o.op with
  | .move x => some (ρ x, [])
  | .assign x => some (ρ x, [])
  | .pick c a b => match ρ c with
    | .sc (.bool t) => some (if t then ρ a else ρ b, [])
    | _ => none
  | .binOp op t x y _ => evBin P ρ o op (boolT P t) (ρ x) (ρ y)
  | .unOp op _ x => evUn P ρ o op (ρ x)
  | .alloc t => evAlloc P nid h t
  | .box _ x => evBox nid h (ρ x)
  | .load t a => (evLoad P h t (ρ a)).map (·, [])
  | .store t a x => (evStore P h t (ρ x) (ρ a)).map fun d => (.any, d)
  | .fieldAddr s x f => (evFieldAddr P s f (ρ x)).map (·, [])
  | .indexAddr t x i => (evIndexAddr P h t (ρ x) (ρ i)).map (·, [])
  | .field s x f => match ρ x with
    | .agg cs => (fieldT P s f).bind fun fd => (readC P fd.type cs fd.offset).map (·, [])
    | _ => none
  | .extract x i => match ρ x with
    | .tup vs => (vs[i]?).map (·, [])
    | _ => none
  | .build t parts => (evBuild P t (parts.toList.map fun p => (p.1, ρ p.2))).map (·, [])
  | .buildSlice t len parts => evBsl P nid h t len (parts.toList.map fun p => (p.1, ρ p.2))
  | .makeSlice t l c => evMakeSlice P nid h t (ρ l) (ρ c)
  | .slice t x lo hi mx => match ρ x with
    | .sc (.string _) => evPure P ρ o
    | v => evSlice P h t v (lo.map ρ) (hi.map ρ) (mx.map ρ)
  | .makeFunc fn first captured => some (.fn fn (first.toList.map ρ) (captured.toList.map ρ), [])
  | .nilCheck x => match ρ x with
    | .ref id idx off => some (.ref id idx off, [])
    | .elem e off => some (.elem e off, [])
    | _ => evPure P ρ o
  | .range t x => match ρ x with
    | .sc (.string s) => if strT P t = true then match h nid with
        | .unborn => some (.ref nid 0 0, [(nid, .ext (.iter s 0))])
        | _ => none
      else none
    | _ => none
  | .next it str => match ρ it with
    | .ref id 0 0 => match h id with
      | .ext (.iter s pos) => if str = true then
          if pos < s.size then some (.tup [.sc (.bool true), .sc (.int .i64 pos), .sc (.int .i32 (Utf8.decode s pos).1)], [(id, .ext (.iter s (pos + (Utf8.decode s pos).2)))])
          else some (.tup [.sc (.bool false)], [])
        else none
      | _ => none
    | _ => none
  | .call c => match c.callee with
    | .builtin .len => match c.args.toList, c.argTypes.toList with
      | [x], [t] => match ρ x with
        | .sc _ => evPure P ρ o
        | y => match P.underlying t with
          | some (.slice _) => (y.len).map fun (n : Nat) => (V.sc (.int .i64 (n : Int)), [])
          | _ => none
      | _, _ => none
    | .builtin .append => match c.args.toList, c.argTypes.toList with
      | [s, x], [t, t'] => if t = t' ∨ strT P t' = true then evAppend P nid h t (ρ s) (ρ x) else none
      | _, _ => none
    | .builtin _ => evPure P ρ o
    | .value (.func f) => evCall Φ ρ h f c.args.toList
    | _ => none
  | _ => evPure P ρ o

/-- The objects that an operation may look at. -/
def need0 (nid : Nat) (ρ : Operand → V) (o : Oper) : List Nat :=
  match o.op with
  | .alloc _ => [nid]
  | .box _ _ => [nid]
  | .buildSlice _ _ ps => nid :: (ps.toList.map fun p => (p.1, ρ p.2)).flatMap fun p => p.2.ids
  | .makeSlice _ _ _ => [nid]
  | .range _ _ => [nid]
  | .next it _ => match ρ it with
    | .ref id _ _ => [id]
    | _ => []
  | .load _ a => match ρ a with
    | .ref id _ _ => [id]
    | _ => []
  | .store _ a _ => match ρ a with
    | .ref id _ _ => [id]
    | _ => []
  | .indexAddr _ x _ => (ρ x).ids
  | .slice _ x _ _ _ => (ρ x).ids
  | .call c => match c.callee with
    | .builtin .append => nid :: c.args.toList.flatMap fun x => (ρ x).ids
    | .value _ => c.args.toList.flatMap fun x => (ρ x).ids
    | _ => []
  | _ => []

inductive CK where
  | b
  | i (k : IntKind)
  | s
deriving DecidableEq

def fieldKinds (P : Program) (ck : TypeId → Option (List CK)) : Nat → List Field → Option (List CK)
  | _, [] => some []
  | o, fd :: fs => match ck fd.type, fieldKinds P ck (o + P.cellsOf fd.type) fs with
    | some ks, some ls => if fd.offset = o ∧ fd.name ≠ "_" ∧ sizeT P fd.type = some ks.length ∧ 0 < ks.length then some (ks ++ ls) else none
    | _, _ => none
/-- The kinds of a type's cells, where its values are compared cell by cell. -/
def cellKinds (P : Program) : Nat → TypeId → Option (List CK)
  | 0, _ => none
  | f + 1, t => match P.underlying t with
    | some .bool => some [.b]
    | some (.int k) => some [.i k]
    | some .string => some [.s]
    | some (.struct fs) => if P.stoodInHeld t = false then fieldKinds P (cellKinds P f) 0 fs.toList else none
    | _ => none

def eqC : CK → Value → Value → Option Bool
  | .b, .bool a, .bool b => some (a == b)
  | .i k, .int k1 a, .int k2 b => if k1 = k ∧ k2 = k then some (a == b) else none
  | .s, .string a, .string b => some (a == b)
  | _, _, _ => none
def andO : Option Bool → Option Bool → Option Bool
  | some a, some b => some (a && b)
  | _, _ => none
def eqK : List CK → List Value → List Value → Option Bool
  | [], [], [] => some true
  | c :: ks, x :: xs, y :: ys => andO (eqC c x y) (eqK ks xs ys)
  | _, _, _ => none

/-- A value of one cell, or a whole struct. -/
def okKey (ag : Bool) : Value → Bool
  | .agg _ => ag
  | v => !ag && v.oneCell'
def keyFind (ag : Bool) (ks : List CK) (k : List Value) : List Value → Nat → Option (Option Nat)
  | [], _ => some none
  | x :: xs, i => if okKey ag x = true then match eqK ks k x.cells.toList with
      | some true => some (some i)
      | some false => keyFind ag ks k xs (i + 1)
      | none => none
    else none

def kvOf (ag : Bool) : V → Option Value
  | .sc v => if okKey ag v = true then some v else none
  | .agg cs => if ag = true then (concL cs).map fun l => .agg l.toArray else none
  | _ => none
def mapKV (P : Program) (t : TypeId) : Option (TypeId × TypeId × List CK) := match P.underlying t with
  | some (.map kt et) => (cellKinds P 8 kt).map fun ks => (kt, et, ks)
  | _ => none
def idxOf (P : Program) (kt : TypeId) (ks : List CK) (kv : Value) (keys : List Value) : Option (Option Nat) := if kv.cells.size = ks.length then keyFind (aggT P kt) ks kv.cells.toList keys 0 else none

def lookV (b : Bool) (v : V) (ok : Bool) : V := if b then .tup [v, .sc (.bool ok)] else v
/-- What a map holds. -/
def mapOf (H : Heap) : V → Option (List Value × List V)
  | .mapr id => match H id with
    | .ext (.map keys vs) => some (keys, vs)
    | _ => none
  | .mapf keys vs => some (keys, vs)
  | _ => none
def mapLook (P : Program) (H : Heap) (t : TypeId) (m k : V) (b : Bool) : Option (V × List (Nat × Obj)) := match mapKV P t with
  | some (kt, et, ks) => match mapOf H m, kvOf (aggT P kt) k with
    | some (keys, vs), some kv => match idxOf P kt ks kv keys with
      | some (some i) => (vs[i]?).map fun v => (lookV b v true, [])
      | some none => (zeroT P et).map fun z => (lookV b (V.ofV z) false, [])
      | none => none
    | _, _ => none
  | none => none
def mapPut (P : Program) (H : Heap) (t : TypeId) (m k v : V) : Option (V × List (Nat × Obj)) := match mapKV P t with
  | some (kt, _, ks) => match m with
    | .mapr id => match H id, kvOf (aggT P kt) k with
      | .ext (.map keys vs), some kv => match idxOf P kt ks kv keys with
        | some (some i) => some (.any, [(id, .ext (.map (keys.set i kv) (vs.set i v)))])
        | some none => some (.any, [(id, .ext (.map (keys ++ [kv]) (vs ++ [v])))])
        | none => none
      | _, _ => none
    | _ => none
  | none => none
def mapDel (P : Program) (H : Heap) (t : TypeId) (m k : V) : Option (V × List (Nat × Obj)) := match mapKV P t with
  | some (kt, _, ks) => match m with
    | .mapr id => match H id, kvOf (aggT P kt) k with
      | .ext (.map keys vs), some kv => match idxOf P kt ks kv keys with
        | some (some i) => some (.sc (.tuple #[]), [(id, .ext (.map (keys.eraseIdx i) (vs.eraseIdx i)))])
        | some none => some (.sc (.tuple #[]), [(id, .ext (.map keys vs))])
        | none => none
      | _, _ => none
    | _ => none
  | none => none
def mapMake (P : Program) (n : Nat) (H : Heap) (t : TypeId) (r : Option V) : Option (V × List (Nat × Obj)) := match mapKV P t with
  | some _ => match r with
    | none => match H n with
      | .unborn => some (.mapr n, [(n, .ext (.map [] []))])
      | _ => none
    | some (.sc (.int _ _)) => match H n with
      | .unborn => some (.mapr n, [(n, .ext (.map [] []))])
      | _ => none
    | _ => none
  | none => none
def mapLen (P : Program) (H : Heap) (t : TypeId) (m : V) : Option (V × List (Nat × Obj)) := match P.underlying t with
  | some (.map _ _) => match mapOf H m with
    | some (keys, _) => some (.sc (.int .i64 (keys.length : Int)), [])
    | none => none
  | _ => none
def mapEv (P : Program) (n : Nat) (ρ : Operand → V) (H : Heap) (o : Oper) : Option (V × List (Nat × Obj)) := match o.op with
  | .makeMap t r => mapMake P n H t (r.map ρ)
  | .mapUpdate t m k v => mapPut P H t (ρ m) (ρ k) (ρ v)
  | .lookup t m k b => mapLook P H t (ρ m) (ρ k) b
  | .call c => match c.callee, c.args.toList, c.argTypes.toList with
    | .builtin .len, [x], [t] => mapLen P H t (ρ x)
    | .builtin .delete, [x, y], [t, _] => mapDel P H t (ρ x) (ρ y)
    | _, _, _ => none
  | _ => none

def idM : V → List Nat
  | .mapr id => [id]
  | _ => []
/-- The maps that an operation looks at. -/
def mapNeed (nid : Nat) (ρ : Operand → V) (o : Oper) : List Nat := match o.op with
  | .makeMap _ _ => [nid]
  | .mapUpdate _ m _ _ => idM (ρ m)
  | .lookup _ m _ _ => idM (ρ m)
  | .call c => match c.callee, c.args.toList with
    | .builtin .len, [x] => idM (ρ x)
    | .builtin .delete, [x, _] => idM (ρ x)
    | _, _ => []
  | _ => []
def need (nid : Nat) (ρ : Operand → V) (o : Oper) : List Nat := mapNeed nid ρ o ++ need0 nid ρ o
def orE {α : Type} : Option α → Option α → Option α
  | some a, _ => some a
  | none, b => b
def evOp (P : Program) (Φ : Specs) (nid : Nat) (ρ : Operand → V) (h : Heap) (o : Oper) : Option (V × List (Nat × Obj)) :=
  orE (evOp0 P Φ nid ρ h o) (mapEv P nid ρ h o)

def only (ids : List Nat) (h : Heap) : Heap := fun x => if ids.contains x then h x else .dead

/-- One operation: it looks at what it needs alone. -/
def ev (P : Program) (Φ : Specs) (nid : Nat) (ρ : Operand → V) (h : Heap) (o : Oper) : Option (V × List (Nat × Obj)) :=
  evOp P Φ nid ρ (only (need nid ρ o) h) o

def putH (h : Heap) : List (Nat × Obj) → Heap
  | [] => h
  | (id, x) :: rest => putH (fun y => if y = id then x else h y) rest

end Go.Idl
