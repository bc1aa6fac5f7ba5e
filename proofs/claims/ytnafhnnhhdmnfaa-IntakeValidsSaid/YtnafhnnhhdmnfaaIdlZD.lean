/-
  Structures of the program's package api, and how they stand as ideal values.
-/
import Derived.Test.YtnafhnnhhdmnfaaIdlZC
namespace Go.Idl
set_option linter.all false

@[ext] structure Rdg where
  time : Int
  reg : Int

def Rdg.dec : V → Option Rdg
  | .agg [c0, c1] => bO (Cod.dec c0 : Option (Int)) fun a0 => bO (Cod.dec c1 : Option (Int)) fun a1 => some (.mk a0 a1)
  | _ => none
instance : Cod Rdg where
  enc := fun d => .agg [Cod.enc d.time, Cod.enc d.reg]
  dec := Rdg.dec
  sz := 2
  len := fun _ => rfl
  dec_enc := fun d => by
    simp only [Rdg.dec, Cod.dec_enc, bO_some]
  le := fun v a h => by
    unfold Rdg.dec at h
    split at h
    · simp only [bO_eq] at h
      obtain ⟨a0, h0, a1, h1, he⟩ := h
      cases he
      exact .agg (.cons (Cod.le _ _ h0).le (.cons (Cod.le _ _ h1).le .nil))
    · cases h
@[go_sem ↓] theorem Rdg.enc_eq (d : Rdg) : Cod.enc d = .agg [Cod.enc d.time, Cod.enc d.reg] := nd rfl
@[go_sem ↓] theorem Rdg.dec_eq (c0 c1 : V) : (Cod.dec (.agg [c0, c1]) : Option Rdg) = bO (Cod.dec c0 : Option (Int)) fun a0 => bO (Cod.dec c1 : Option (Int)) fun a1 => some (.mk a0 a1) := nd rfl
def Rdg.ok (d : Rdg) : Prop := okI d.time ∧ okI d.reg
@[go_sem] theorem Rdg.eta (d : Rdg) : Rdg.mk d.time d.reg = d := nd rfl
@[go_sem ↓] theorem Rdg.sz_eq : Cod.sz Rdg = 2 := nd rfl

@[ext] structure UseD where
  energy : Int
  idle : Bool

def UseD.dec : V → Option UseD
  | .agg [c0, c1] => bO (Cod.dec c0 : Option (Int)) fun a0 => bO (Cod.dec c1 : Option (Bool)) fun a1 => some (.mk a0 a1)
  | _ => none
instance : Cod UseD where
  enc := fun d => .agg [Cod.enc d.energy, Cod.enc d.idle]
  dec := UseD.dec
  sz := 2
  len := fun _ => rfl
  dec_enc := fun d => by
    simp only [UseD.dec, Cod.dec_enc, bO_some]
  le := fun v a h => by
    unfold UseD.dec at h
    split at h
    · simp only [bO_eq] at h
      obtain ⟨a0, h0, a1, h1, he⟩ := h
      cases he
      exact .agg (.cons (Cod.le _ _ h0).le (.cons (Cod.le _ _ h1).le .nil))
    · cases h
@[go_sem ↓] theorem UseD.enc_eq (d : UseD) : Cod.enc d = .agg [Cod.enc d.energy, Cod.enc d.idle] := nd rfl
@[go_sem ↓] theorem UseD.dec_eq (c0 c1 : V) : (Cod.dec (.agg [c0, c1]) : Option UseD) = bO (Cod.dec c0 : Option (Int)) fun a0 => bO (Cod.dec c1 : Option (Bool)) fun a1 => some (.mk a0 a1) := nd rfl
def UseD.ok (d : UseD) : Prop := okI d.energy ∧ True
@[go_sem] theorem UseD.eta (d : UseD) : UseD.mk d.energy d.idle = d := nd rfl
@[go_sem ↓] theorem UseD.sz_eq : Cod.sz UseD = 2 := nd rfl

@[ext] structure ItemD where
  kind : Int
  price : Int
  tax : Int
  quantity : Int
  net : Int
  vat : Int
  gross : Int

def ItemD.dec : V → Option ItemD
  | .agg [c0, c1, c2, c3, c4, c5, c6] => bO (Cod.dec c0 : Option (Int)) fun a0 => bO (Cod.dec c1 : Option (Int)) fun a1 => bO (Cod.dec c2 : Option (Int)) fun a2 => bO (Cod.dec c3 : Option (Int)) fun a3 => bO (Cod.dec c4 : Option (Int)) fun a4 => bO (Cod.dec c5 : Option (Int)) fun a5 => bO (Cod.dec c6 : Option (Int)) fun a6 => some (.mk a0 a1 a2 a3 a4 a5 a6)
  | _ => none
instance : Cod ItemD where
  enc := fun d => .agg [Cod.enc d.kind, Cod.enc d.price, Cod.enc d.tax, Cod.enc d.quantity, Cod.enc d.net, Cod.enc d.vat, Cod.enc d.gross]
  dec := ItemD.dec
  sz := 7
  len := fun _ => rfl
  dec_enc := fun d => by
    simp only [ItemD.dec, Cod.dec_enc, bO_some]
  le := fun v a h => by
    unfold ItemD.dec at h
    split at h
    · simp only [bO_eq] at h
      obtain ⟨a0, h0, a1, h1, a2, h2, a3, h3, a4, h4, a5, h5, a6, h6, he⟩ := h
      cases he
      exact .agg (.cons (Cod.le _ _ h0).le (.cons (Cod.le _ _ h1).le (.cons (Cod.le _ _ h2).le (.cons (Cod.le _ _ h3).le (.cons (Cod.le _ _ h4).le (.cons (Cod.le _ _ h5).le (.cons (Cod.le _ _ h6).le .nil)))))))
    · cases h
@[go_sem ↓] theorem ItemD.enc_eq (d : ItemD) : Cod.enc d = .agg [Cod.enc d.kind, Cod.enc d.price, Cod.enc d.tax, Cod.enc d.quantity, Cod.enc d.net, Cod.enc d.vat, Cod.enc d.gross] := nd rfl
@[go_sem ↓] theorem ItemD.dec_eq (c0 c1 c2 c3 c4 c5 c6 : V) : (Cod.dec (.agg [c0, c1, c2, c3, c4, c5, c6]) : Option ItemD) = bO (Cod.dec c0 : Option (Int)) fun a0 => bO (Cod.dec c1 : Option (Int)) fun a1 => bO (Cod.dec c2 : Option (Int)) fun a2 => bO (Cod.dec c3 : Option (Int)) fun a3 => bO (Cod.dec c4 : Option (Int)) fun a4 => bO (Cod.dec c5 : Option (Int)) fun a5 => bO (Cod.dec c6 : Option (Int)) fun a6 => some (.mk a0 a1 a2 a3 a4 a5 a6) := nd rfl
def ItemD.ok (d : ItemD) : Prop := okI d.kind ∧ okI d.price ∧ okI d.tax ∧ okI d.quantity ∧ okI d.net ∧ okI d.vat ∧ okI d.gross
@[go_sem] theorem ItemD.eta (d : ItemD) : ItemD.mk d.kind d.price d.tax d.quantity d.net d.vat d.gross = d := nd rfl
@[go_sem ↓] theorem ItemD.sz_eq : Cod.sz ItemD = 7 := nd rfl

@[ext] structure CdrD where
  id : ByteArray
  operator : ByteArray
  provider : ByteArray
  session : ByteArray
  version : Int
  start : Int
  stop : Int
  energy : Int
  tariff : ByteArray
  currency : ByteArray
  items : List ItemD
  total : Int
  credit : Bool
  ref : ByteArray

def CdrD.dec : V → Option CdrD
  | .agg [c0, c1, c2, c3, c4, c5, c6, c7, c8, c9, c10, c11, c12, c13] => bO (Cod.dec c0 : Option (ByteArray)) fun a0 => bO (Cod.dec c1 : Option (ByteArray)) fun a1 => bO (Cod.dec c2 : Option (ByteArray)) fun a2 => bO (Cod.dec c3 : Option (ByteArray)) fun a3 => bO (Cod.dec c4 : Option (Int)) fun a4 => bO (Cod.dec c5 : Option (Int)) fun a5 => bO (Cod.dec c6 : Option (Int)) fun a6 => bO (Cod.dec c7 : Option (Int)) fun a7 => bO (Cod.dec c8 : Option (ByteArray)) fun a8 => bO (Cod.dec c9 : Option (ByteArray)) fun a9 => bO (Cod.dec c10 : Option (List ItemD)) fun a10 => bO (Cod.dec c11 : Option (Int)) fun a11 => bO (Cod.dec c12 : Option (Bool)) fun a12 => bO (Cod.dec c13 : Option (ByteArray)) fun a13 => some (.mk a0 a1 a2 a3 a4 a5 a6 a7 a8 a9 a10 a11 a12 a13)
  | _ => none
instance : Cod CdrD where
  enc := fun d => .agg [Cod.enc d.id, Cod.enc d.operator, Cod.enc d.provider, Cod.enc d.session, Cod.enc d.version, Cod.enc d.start, Cod.enc d.stop, Cod.enc d.energy, Cod.enc d.tariff, Cod.enc d.currency, Cod.enc d.items, Cod.enc d.total, Cod.enc d.credit, Cod.enc d.ref]
  dec := CdrD.dec
  sz := 14
  len := fun _ => rfl
  dec_enc := fun d => by
    simp only [CdrD.dec, Cod.dec_enc, bO_some]
  le := fun v a h => by
    unfold CdrD.dec at h
    split at h
    · simp only [bO_eq] at h
      obtain ⟨a0, h0, a1, h1, a2, h2, a3, h3, a4, h4, a5, h5, a6, h6, a7, h7, a8, h8, a9, h9, a10, h10, a11, h11, a12, h12, a13, h13, he⟩ := h
      cases he
      exact .agg (.cons (Cod.le _ _ h0).le (.cons (Cod.le _ _ h1).le (.cons (Cod.le _ _ h2).le (.cons (Cod.le _ _ h3).le (.cons (Cod.le _ _ h4).le (.cons (Cod.le _ _ h5).le (.cons (Cod.le _ _ h6).le (.cons (Cod.le _ _ h7).le (.cons (Cod.le _ _ h8).le (.cons (Cod.le _ _ h9).le (.cons (Cod.le _ _ h10).le (.cons (Cod.le _ _ h11).le (.cons (Cod.le _ _ h12).le (.cons (Cod.le _ _ h13).le .nil))))))))))))))
    · cases h
@[go_sem ↓] theorem CdrD.enc_eq (d : CdrD) : Cod.enc d = .agg [Cod.enc d.id, Cod.enc d.operator, Cod.enc d.provider, Cod.enc d.session, Cod.enc d.version, Cod.enc d.start, Cod.enc d.stop, Cod.enc d.energy, Cod.enc d.tariff, Cod.enc d.currency, Cod.enc d.items, Cod.enc d.total, Cod.enc d.credit, Cod.enc d.ref] := nd rfl
@[go_sem ↓] theorem CdrD.dec_eq (c0 c1 c2 c3 c4 c5 c6 c7 c8 c9 c10 c11 c12 c13 : V) : (Cod.dec (.agg [c0, c1, c2, c3, c4, c5, c6, c7, c8, c9, c10, c11, c12, c13]) : Option CdrD) = bO (Cod.dec c0 : Option (ByteArray)) fun a0 => bO (Cod.dec c1 : Option (ByteArray)) fun a1 => bO (Cod.dec c2 : Option (ByteArray)) fun a2 => bO (Cod.dec c3 : Option (ByteArray)) fun a3 => bO (Cod.dec c4 : Option (Int)) fun a4 => bO (Cod.dec c5 : Option (Int)) fun a5 => bO (Cod.dec c6 : Option (Int)) fun a6 => bO (Cod.dec c7 : Option (Int)) fun a7 => bO (Cod.dec c8 : Option (ByteArray)) fun a8 => bO (Cod.dec c9 : Option (ByteArray)) fun a9 => bO (Cod.dec c10 : Option (List ItemD)) fun a10 => bO (Cod.dec c11 : Option (Int)) fun a11 => bO (Cod.dec c12 : Option (Bool)) fun a12 => bO (Cod.dec c13 : Option (ByteArray)) fun a13 => some (.mk a0 a1 a2 a3 a4 a5 a6 a7 a8 a9 a10 a11 a12 a13) := nd rfl
def CdrD.ok (d : CdrD) : Prop := okS d.id ∧ okS d.operator ∧ okS d.provider ∧ okS d.session ∧ okI d.version ∧ okI d.start ∧ okI d.stop ∧ okI d.energy ∧ okS d.tariff ∧ okS d.currency ∧ okL (ItemD.ok) d.items ∧ okI d.total ∧ True ∧ okS d.ref
@[go_sem] theorem CdrD.eta (d : CdrD) : CdrD.mk d.id d.operator d.provider d.session d.version d.start d.stop d.energy d.tariff d.currency d.items d.total d.credit d.ref = d := nd rfl
@[go_sem ↓] theorem CdrD.sz_eq : Cod.sz CdrD = 14 := nd rfl

@[ext] structure Disp where
  cdr : ByteArray
  who : ByteArray
  state : Int
  opened : Int
  claim : Int
  granted : Int

def Disp.dec : V → Option Disp
  | .agg [c0, c1, c2, c3, c4, c5] => bO (Cod.dec c0 : Option (ByteArray)) fun a0 => bO (Cod.dec c1 : Option (ByteArray)) fun a1 => bO (Cod.dec c2 : Option (Int)) fun a2 => bO (Cod.dec c3 : Option (Int)) fun a3 => bO (Cod.dec c4 : Option (Int)) fun a4 => bO (Cod.dec c5 : Option (Int)) fun a5 => some (.mk a0 a1 a2 a3 a4 a5)
  | _ => none
instance : Cod Disp where
  enc := fun d => .agg [Cod.enc d.cdr, Cod.enc d.who, Cod.enc d.state, Cod.enc d.opened, Cod.enc d.claim, Cod.enc d.granted]
  dec := Disp.dec
  sz := 6
  len := fun _ => rfl
  dec_enc := fun d => by
    simp only [Disp.dec, Cod.dec_enc, bO_some]
  le := fun v a h => by
    unfold Disp.dec at h
    split at h
    · simp only [bO_eq] at h
      obtain ⟨a0, h0, a1, h1, a2, h2, a3, h3, a4, h4, a5, h5, he⟩ := h
      cases he
      exact .agg (.cons (Cod.le _ _ h0).le (.cons (Cod.le _ _ h1).le (.cons (Cod.le _ _ h2).le (.cons (Cod.le _ _ h3).le (.cons (Cod.le _ _ h4).le (.cons (Cod.le _ _ h5).le .nil))))))
    · cases h
@[go_sem ↓] theorem Disp.enc_eq (d : Disp) : Cod.enc d = .agg [Cod.enc d.cdr, Cod.enc d.who, Cod.enc d.state, Cod.enc d.opened, Cod.enc d.claim, Cod.enc d.granted] := nd rfl
@[go_sem ↓] theorem Disp.dec_eq (c0 c1 c2 c3 c4 c5 : V) : (Cod.dec (.agg [c0, c1, c2, c3, c4, c5]) : Option Disp) = bO (Cod.dec c0 : Option (ByteArray)) fun a0 => bO (Cod.dec c1 : Option (ByteArray)) fun a1 => bO (Cod.dec c2 : Option (Int)) fun a2 => bO (Cod.dec c3 : Option (Int)) fun a3 => bO (Cod.dec c4 : Option (Int)) fun a4 => bO (Cod.dec c5 : Option (Int)) fun a5 => some (.mk a0 a1 a2 a3 a4 a5) := nd rfl
def Disp.ok (d : Disp) : Prop := okS d.cdr ∧ okS d.who ∧ okI d.state ∧ okI d.opened ∧ okI d.claim ∧ okI d.granted
@[go_sem] theorem Disp.eta (d : Disp) : Disp.mk d.cdr d.who d.state d.opened d.claim d.granted = d := nd rfl
@[go_sem ↓] theorem Disp.sz_eq : Cod.sz Disp = 6 := nd rfl

@[ext] structure MoveD where
  who : ByteArray
  action : Int
  amount : Int
  now : Int

def MoveD.dec : V → Option MoveD
  | .agg [c0, c1, c2, c3] => bO (Cod.dec c0 : Option (ByteArray)) fun a0 => bO (Cod.dec c1 : Option (Int)) fun a1 => bO (Cod.dec c2 : Option (Int)) fun a2 => bO (Cod.dec c3 : Option (Int)) fun a3 => some (.mk a0 a1 a2 a3)
  | _ => none
instance : Cod MoveD where
  enc := fun d => .agg [Cod.enc d.who, Cod.enc d.action, Cod.enc d.amount, Cod.enc d.now]
  dec := MoveD.dec
  sz := 4
  len := fun _ => rfl
  dec_enc := fun d => by
    simp only [MoveD.dec, Cod.dec_enc, bO_some]
  le := fun v a h => by
    unfold MoveD.dec at h
    split at h
    · simp only [bO_eq] at h
      obtain ⟨a0, h0, a1, h1, a2, h2, a3, h3, he⟩ := h
      cases he
      exact .agg (.cons (Cod.le _ _ h0).le (.cons (Cod.le _ _ h1).le (.cons (Cod.le _ _ h2).le (.cons (Cod.le _ _ h3).le .nil))))
    · cases h
@[go_sem ↓] theorem MoveD.enc_eq (d : MoveD) : Cod.enc d = .agg [Cod.enc d.who, Cod.enc d.action, Cod.enc d.amount, Cod.enc d.now] := nd rfl
@[go_sem ↓] theorem MoveD.dec_eq (c0 c1 c2 c3 : V) : (Cod.dec (.agg [c0, c1, c2, c3]) : Option MoveD) = bO (Cod.dec c0 : Option (ByteArray)) fun a0 => bO (Cod.dec c1 : Option (Int)) fun a1 => bO (Cod.dec c2 : Option (Int)) fun a2 => bO (Cod.dec c3 : Option (Int)) fun a3 => some (.mk a0 a1 a2 a3) := nd rfl
def MoveD.ok (d : MoveD) : Prop := okS d.who ∧ okI d.action ∧ okI d.amount ∧ okI d.now
@[go_sem] theorem MoveD.eta (d : MoveD) : MoveD.mk d.who d.action d.amount d.now = d := nd rfl
@[go_sem ↓] theorem MoveD.sz_eq : Cod.sz MoveD = 4 := nd rfl

@[ext] structure TokD where
  id : ByteArray
  group : ByteArray
  contract : ByteArray
  kind : Int
  status : Int
  expiry : Int

def TokD.dec : V → Option TokD
  | .agg [c0, c1, c2, c3, c4, c5] => bO (Cod.dec c0 : Option (ByteArray)) fun a0 => bO (Cod.dec c1 : Option (ByteArray)) fun a1 => bO (Cod.dec c2 : Option (ByteArray)) fun a2 => bO (Cod.dec c3 : Option (Int)) fun a3 => bO (Cod.dec c4 : Option (Int)) fun a4 => bO (Cod.dec c5 : Option (Int)) fun a5 => some (.mk a0 a1 a2 a3 a4 a5)
  | _ => none
instance : Cod TokD where
  enc := fun d => .agg [Cod.enc d.id, Cod.enc d.group, Cod.enc d.contract, Cod.enc d.kind, Cod.enc d.status, Cod.enc d.expiry]
  dec := TokD.dec
  sz := 6
  len := fun _ => rfl
  dec_enc := fun d => by
    simp only [TokD.dec, Cod.dec_enc, bO_some]
  le := fun v a h => by
    unfold TokD.dec at h
    split at h
    · simp only [bO_eq] at h
      obtain ⟨a0, h0, a1, h1, a2, h2, a3, h3, a4, h4, a5, h5, he⟩ := h
      cases he
      exact .agg (.cons (Cod.le _ _ h0).le (.cons (Cod.le _ _ h1).le (.cons (Cod.le _ _ h2).le (.cons (Cod.le _ _ h3).le (.cons (Cod.le _ _ h4).le (.cons (Cod.le _ _ h5).le .nil))))))
    · cases h
@[go_sem ↓] theorem TokD.enc_eq (d : TokD) : Cod.enc d = .agg [Cod.enc d.id, Cod.enc d.group, Cod.enc d.contract, Cod.enc d.kind, Cod.enc d.status, Cod.enc d.expiry] := nd rfl
@[go_sem ↓] theorem TokD.dec_eq (c0 c1 c2 c3 c4 c5 : V) : (Cod.dec (.agg [c0, c1, c2, c3, c4, c5]) : Option TokD) = bO (Cod.dec c0 : Option (ByteArray)) fun a0 => bO (Cod.dec c1 : Option (ByteArray)) fun a1 => bO (Cod.dec c2 : Option (ByteArray)) fun a2 => bO (Cod.dec c3 : Option (Int)) fun a3 => bO (Cod.dec c4 : Option (Int)) fun a4 => bO (Cod.dec c5 : Option (Int)) fun a5 => some (.mk a0 a1 a2 a3 a4 a5) := nd rfl
def TokD.ok (d : TokD) : Prop := okS d.id ∧ okS d.group ∧ okS d.contract ∧ okI d.kind ∧ okI d.status ∧ okI d.expiry
@[go_sem] theorem TokD.eta (d : TokD) : TokD.mk d.id d.group d.contract d.kind d.status d.expiry = d := nd rfl
@[go_sem ↓] theorem TokD.sz_eq : Cod.sz TokD = 6 := nd rfl

@[ext] structure TxnD where
  id : ByteArray
  conn : Int
  token : ByteArray
  group : ByteArray
  start : Int
  seq : Int
  stopped : Bool
  last : Rdg

def TxnD.dec : V → Option TxnD
  | .agg [c0, c1, c2, c3, c4, c5, c6, c7, c8] => bO (Cod.dec c0 : Option (ByteArray)) fun a0 => bO (Cod.dec c1 : Option (Int)) fun a1 => bO (Cod.dec c2 : Option (ByteArray)) fun a2 => bO (Cod.dec c3 : Option (ByteArray)) fun a3 => bO (Cod.dec c4 : Option (Int)) fun a4 => bO (Cod.dec c5 : Option (Int)) fun a5 => bO (Cod.dec c6 : Option (Bool)) fun a6 => bO (Cod.dec (.agg [c7, c8]) : Option (Rdg)) fun a7 => some (.mk a0 a1 a2 a3 a4 a5 a6 a7)
  | _ => none
instance : Cod TxnD where
  enc := fun d => .agg [Cod.enc d.id, Cod.enc d.conn, Cod.enc d.token, Cod.enc d.group, Cod.enc d.start, Cod.enc d.seq, Cod.enc d.stopped, Cod.enc d.last.time, Cod.enc d.last.reg]
  dec := TxnD.dec
  sz := 9
  len := fun _ => rfl
  dec_enc := fun d => by
    simp only [TxnD.dec, Cod.dec_enc, bO_some, show ∀ x : Rdg, (Cod.dec (.agg [Cod.enc x.time, Cod.enc x.reg]) : Option Rdg) = some x from fun x => Cod.dec_enc x]
  le := fun v a h => by
    unfold TxnD.dec at h
    split at h
    · simp only [bO_eq] at h
      obtain ⟨a0, h0, a1, h1, a2, h2, a3, h3, a4, h4, a5, h5, a6, h6, a7, h7, he⟩ := h
      cases he
      exact .agg (.cons (Cod.le _ _ h0).le (.cons (Cod.le _ _ h1).le (.cons (Cod.le _ _ h2).le (.cons (Cod.le _ _ h3).le (.cons (Cod.le _ _ h4).le (.cons (Cod.le _ _ h5).le (.cons (Cod.le _ _ h6).le (.app (Cod.le _ _ h7).cells .nil))))))))
    · cases h
@[go_sem ↓] theorem TxnD.enc_eq (d : TxnD) : Cod.enc d = .agg [Cod.enc d.id, Cod.enc d.conn, Cod.enc d.token, Cod.enc d.group, Cod.enc d.start, Cod.enc d.seq, Cod.enc d.stopped, Cod.enc d.last.time, Cod.enc d.last.reg] := nd rfl
@[go_sem ↓] theorem TxnD.dec_eq (c0 c1 c2 c3 c4 c5 c6 c7 c8 : V) : (Cod.dec (.agg [c0, c1, c2, c3, c4, c5, c6, c7, c8]) : Option TxnD) = bO (Cod.dec c0 : Option (ByteArray)) fun a0 => bO (Cod.dec c1 : Option (Int)) fun a1 => bO (Cod.dec c2 : Option (ByteArray)) fun a2 => bO (Cod.dec c3 : Option (ByteArray)) fun a3 => bO (Cod.dec c4 : Option (Int)) fun a4 => bO (Cod.dec c5 : Option (Int)) fun a5 => bO (Cod.dec c6 : Option (Bool)) fun a6 => bO (Cod.dec (.agg [c7, c8]) : Option (Rdg)) fun a7 => some (.mk a0 a1 a2 a3 a4 a5 a6 a7) := nd rfl
def TxnD.ok (d : TxnD) : Prop := okS d.id ∧ okI d.conn ∧ okS d.token ∧ okS d.group ∧ okI d.start ∧ okI d.seq ∧ True ∧ Rdg.ok d.last
@[go_sem] theorem TxnD.eta (d : TxnD) : TxnD.mk d.id d.conn d.token d.group d.start d.seq d.stopped d.last = d := nd rfl
@[go_sem ↓] theorem TxnD.sz_eq : Cod.sz TxnD = 9 := nd rfl

@[ext] structure EvD where
  station : ByteArray
  txn : ByteArray
  conn : Int
  seq : Int
  kind : Int
  time : Int
  token : ByteArray
  offline : Bool
  reason : Int
  rds : List Rdg

def EvD.dec : V → Option EvD
  | .agg [c0, c1, c2, c3, c4, c5, c6, c7, c8, c9] => bO (Cod.dec c0 : Option (ByteArray)) fun a0 => bO (Cod.dec c1 : Option (ByteArray)) fun a1 => bO (Cod.dec c2 : Option (Int)) fun a2 => bO (Cod.dec c3 : Option (Int)) fun a3 => bO (Cod.dec c4 : Option (Int)) fun a4 => bO (Cod.dec c5 : Option (Int)) fun a5 => bO (Cod.dec c6 : Option (ByteArray)) fun a6 => bO (Cod.dec c7 : Option (Bool)) fun a7 => bO (Cod.dec c8 : Option (Int)) fun a8 => bO (Cod.dec c9 : Option (List Rdg)) fun a9 => some (.mk a0 a1 a2 a3 a4 a5 a6 a7 a8 a9)
  | _ => none
instance : Cod EvD where
  enc := fun d => .agg [Cod.enc d.station, Cod.enc d.txn, Cod.enc d.conn, Cod.enc d.seq, Cod.enc d.kind, Cod.enc d.time, Cod.enc d.token, Cod.enc d.offline, Cod.enc d.reason, Cod.enc d.rds]
  dec := EvD.dec
  sz := 10
  len := fun _ => rfl
  dec_enc := fun d => by
    simp only [EvD.dec, Cod.dec_enc, bO_some]
  le := fun v a h => by
    unfold EvD.dec at h
    split at h
    · simp only [bO_eq] at h
      obtain ⟨a0, h0, a1, h1, a2, h2, a3, h3, a4, h4, a5, h5, a6, h6, a7, h7, a8, h8, a9, h9, he⟩ := h
      cases he
      exact .agg (.cons (Cod.le _ _ h0).le (.cons (Cod.le _ _ h1).le (.cons (Cod.le _ _ h2).le (.cons (Cod.le _ _ h3).le (.cons (Cod.le _ _ h4).le (.cons (Cod.le _ _ h5).le (.cons (Cod.le _ _ h6).le (.cons (Cod.le _ _ h7).le (.cons (Cod.le _ _ h8).le (.cons (Cod.le _ _ h9).le .nil))))))))))
    · cases h
@[go_sem ↓] theorem EvD.enc_eq (d : EvD) : Cod.enc d = .agg [Cod.enc d.station, Cod.enc d.txn, Cod.enc d.conn, Cod.enc d.seq, Cod.enc d.kind, Cod.enc d.time, Cod.enc d.token, Cod.enc d.offline, Cod.enc d.reason, Cod.enc d.rds] := nd rfl
@[go_sem ↓] theorem EvD.dec_eq (c0 c1 c2 c3 c4 c5 c6 c7 c8 c9 : V) : (Cod.dec (.agg [c0, c1, c2, c3, c4, c5, c6, c7, c8, c9]) : Option EvD) = bO (Cod.dec c0 : Option (ByteArray)) fun a0 => bO (Cod.dec c1 : Option (ByteArray)) fun a1 => bO (Cod.dec c2 : Option (Int)) fun a2 => bO (Cod.dec c3 : Option (Int)) fun a3 => bO (Cod.dec c4 : Option (Int)) fun a4 => bO (Cod.dec c5 : Option (Int)) fun a5 => bO (Cod.dec c6 : Option (ByteArray)) fun a6 => bO (Cod.dec c7 : Option (Bool)) fun a7 => bO (Cod.dec c8 : Option (Int)) fun a8 => bO (Cod.dec c9 : Option (List Rdg)) fun a9 => some (.mk a0 a1 a2 a3 a4 a5 a6 a7 a8 a9) := nd rfl
def EvD.ok (d : EvD) : Prop := okS d.station ∧ okS d.txn ∧ okI d.conn ∧ okI d.seq ∧ okI d.kind ∧ okI d.time ∧ okS d.token ∧ True ∧ okI d.reason ∧ okL (Rdg.ok) d.rds
@[go_sem] theorem EvD.eta (d : EvD) : EvD.mk d.station d.txn d.conn d.seq d.kind d.time d.token d.offline d.reason d.rds = d := nd rfl
@[go_sem ↓] theorem EvD.sz_eq : Cod.sz EvD = 10 := nd rfl

@[ext] structure RecD where
  station : ByteArray
  txn : ByteArray
  conn : Int
  token : ByteArray
  start : Int
  stop : Int
  rds : List Rdg
  energy : Int
  reason : Int
  offline : Bool
  denied : Bool

def RecD.dec : V → Option RecD
  | .agg [c0, c1, c2, c3, c4, c5, c6, c7, c8, c9, c10] => bO (Cod.dec c0 : Option (ByteArray)) fun a0 => bO (Cod.dec c1 : Option (ByteArray)) fun a1 => bO (Cod.dec c2 : Option (Int)) fun a2 => bO (Cod.dec c3 : Option (ByteArray)) fun a3 => bO (Cod.dec c4 : Option (Int)) fun a4 => bO (Cod.dec c5 : Option (Int)) fun a5 => bO (Cod.dec c6 : Option (List Rdg)) fun a6 => bO (Cod.dec c7 : Option (Int)) fun a7 => bO (Cod.dec c8 : Option (Int)) fun a8 => bO (Cod.dec c9 : Option (Bool)) fun a9 => bO (Cod.dec c10 : Option (Bool)) fun a10 => some (.mk a0 a1 a2 a3 a4 a5 a6 a7 a8 a9 a10)
  | _ => none
instance : Cod RecD where
  enc := fun d => .agg [Cod.enc d.station, Cod.enc d.txn, Cod.enc d.conn, Cod.enc d.token, Cod.enc d.start, Cod.enc d.stop, Cod.enc d.rds, Cod.enc d.energy, Cod.enc d.reason, Cod.enc d.offline, Cod.enc d.denied]
  dec := RecD.dec
  sz := 11
  len := fun _ => rfl
  dec_enc := fun d => by
    simp only [RecD.dec, Cod.dec_enc, bO_some]
  le := fun v a h => by
    unfold RecD.dec at h
    split at h
    · simp only [bO_eq] at h
      obtain ⟨a0, h0, a1, h1, a2, h2, a3, h3, a4, h4, a5, h5, a6, h6, a7, h7, a8, h8, a9, h9, a10, h10, he⟩ := h
      cases he
      exact .agg (.cons (Cod.le _ _ h0).le (.cons (Cod.le _ _ h1).le (.cons (Cod.le _ _ h2).le (.cons (Cod.le _ _ h3).le (.cons (Cod.le _ _ h4).le (.cons (Cod.le _ _ h5).le (.cons (Cod.le _ _ h6).le (.cons (Cod.le _ _ h7).le (.cons (Cod.le _ _ h8).le (.cons (Cod.le _ _ h9).le (.cons (Cod.le _ _ h10).le .nil)))))))))))
    · cases h
@[go_sem ↓] theorem RecD.enc_eq (d : RecD) : Cod.enc d = .agg [Cod.enc d.station, Cod.enc d.txn, Cod.enc d.conn, Cod.enc d.token, Cod.enc d.start, Cod.enc d.stop, Cod.enc d.rds, Cod.enc d.energy, Cod.enc d.reason, Cod.enc d.offline, Cod.enc d.denied] := nd rfl
@[go_sem ↓] theorem RecD.dec_eq (c0 c1 c2 c3 c4 c5 c6 c7 c8 c9 c10 : V) : (Cod.dec (.agg [c0, c1, c2, c3, c4, c5, c6, c7, c8, c9, c10]) : Option RecD) = bO (Cod.dec c0 : Option (ByteArray)) fun a0 => bO (Cod.dec c1 : Option (ByteArray)) fun a1 => bO (Cod.dec c2 : Option (Int)) fun a2 => bO (Cod.dec c3 : Option (ByteArray)) fun a3 => bO (Cod.dec c4 : Option (Int)) fun a4 => bO (Cod.dec c5 : Option (Int)) fun a5 => bO (Cod.dec c6 : Option (List Rdg)) fun a6 => bO (Cod.dec c7 : Option (Int)) fun a7 => bO (Cod.dec c8 : Option (Int)) fun a8 => bO (Cod.dec c9 : Option (Bool)) fun a9 => bO (Cod.dec c10 : Option (Bool)) fun a10 => some (.mk a0 a1 a2 a3 a4 a5 a6 a7 a8 a9 a10) := nd rfl
def RecD.ok (d : RecD) : Prop := okS d.station ∧ okS d.txn ∧ okI d.conn ∧ okS d.token ∧ okI d.start ∧ okI d.stop ∧ okL (Rdg.ok) d.rds ∧ okI d.energy ∧ okI d.reason ∧ True ∧ True
@[go_sem] theorem RecD.eta (d : RecD) : RecD.mk d.station d.txn d.conn d.token d.start d.stop d.rds d.energy d.reason d.offline d.denied = d := nd rfl
@[go_sem ↓] theorem RecD.sz_eq : Cod.sz RecD = 11 := nd rfl

@[ext] structure TListD where
  version : Int
  tokens : List TokD

def TListD.dec : V → Option TListD
  | .agg [c0, c1] => bO (Cod.dec c0 : Option (Int)) fun a0 => bO (Cod.dec c1 : Option (List TokD)) fun a1 => some (.mk a0 a1)
  | _ => none
instance : Cod TListD where
  enc := fun d => .agg [Cod.enc d.version, Cod.enc d.tokens]
  dec := TListD.dec
  sz := 2
  len := fun _ => rfl
  dec_enc := fun d => by
    simp only [TListD.dec, Cod.dec_enc, bO_some]
  le := fun v a h => by
    unfold TListD.dec at h
    split at h
    · simp only [bO_eq] at h
      obtain ⟨a0, h0, a1, h1, he⟩ := h
      cases he
      exact .agg (.cons (Cod.le _ _ h0).le (.cons (Cod.le _ _ h1).le .nil))
    · cases h
@[go_sem ↓] theorem TListD.enc_eq (d : TListD) : Cod.enc d = .agg [Cod.enc d.version, Cod.enc d.tokens] := nd rfl
@[go_sem ↓] theorem TListD.dec_eq (c0 c1 : V) : (Cod.dec (.agg [c0, c1]) : Option TListD) = bO (Cod.dec c0 : Option (Int)) fun a0 => bO (Cod.dec c1 : Option (List TokD)) fun a1 => some (.mk a0 a1) := nd rfl
def TListD.ok (d : TListD) : Prop := okI d.version ∧ okL (TokD.ok) d.tokens
@[go_sem] theorem TListD.eta (d : TListD) : TListD.mk d.version d.tokens = d := nd rfl
@[go_sem ↓] theorem TListD.sz_eq : Cod.sz TListD = 2 := nd rfl

@[ext] structure StartD where
  station : ByteArray
  serial : Int
  conn : Int
  token : TokD
  reading : Rdg
  offline : Bool

def StartD.dec : V → Option StartD
  | .agg [c0, c1, c2, c3, c4, c5, c6, c7, c8, c9, c10, c11] => bO (Cod.dec c0 : Option (ByteArray)) fun a0 => bO (Cod.dec c1 : Option (Int)) fun a1 => bO (Cod.dec c2 : Option (Int)) fun a2 => bO (Cod.dec (.agg [c3, c4, c5, c6, c7, c8]) : Option (TokD)) fun a3 => bO (Cod.dec (.agg [c9, c10]) : Option (Rdg)) fun a4 => bO (Cod.dec c11 : Option (Bool)) fun a5 => some (.mk a0 a1 a2 a3 a4 a5)
  | _ => none
instance : Cod StartD where
  enc := fun d => .agg [Cod.enc d.station, Cod.enc d.serial, Cod.enc d.conn, Cod.enc d.token.id, Cod.enc d.token.group, Cod.enc d.token.contract, Cod.enc d.token.kind, Cod.enc d.token.status, Cod.enc d.token.expiry, Cod.enc d.reading.time, Cod.enc d.reading.reg, Cod.enc d.offline]
  dec := StartD.dec
  sz := 12
  len := fun _ => rfl
  dec_enc := fun d => by
    simp only [StartD.dec, Cod.dec_enc, bO_some, show ∀ x : TokD, (Cod.dec (.agg [Cod.enc x.id, Cod.enc x.group, Cod.enc x.contract, Cod.enc x.kind, Cod.enc x.status, Cod.enc x.expiry]) : Option TokD) = some x from fun x => Cod.dec_enc x, show ∀ x : Rdg, (Cod.dec (.agg [Cod.enc x.time, Cod.enc x.reg]) : Option Rdg) = some x from fun x => Cod.dec_enc x]
  le := fun v a h => by
    unfold StartD.dec at h
    split at h
    · simp only [bO_eq] at h
      obtain ⟨a0, h0, a1, h1, a2, h2, a3, h3, a4, h4, a5, h5, he⟩ := h
      cases he
      exact .agg (.cons (Cod.le _ _ h0).le (.cons (Cod.le _ _ h1).le (.cons (Cod.le _ _ h2).le (.app (Cod.le _ _ h3).cells (.app (Cod.le _ _ h4).cells (.cons (Cod.le _ _ h5).le .nil))))))
    · cases h
@[go_sem ↓] theorem StartD.enc_eq (d : StartD) : Cod.enc d = .agg [Cod.enc d.station, Cod.enc d.serial, Cod.enc d.conn, Cod.enc d.token.id, Cod.enc d.token.group, Cod.enc d.token.contract, Cod.enc d.token.kind, Cod.enc d.token.status, Cod.enc d.token.expiry, Cod.enc d.reading.time, Cod.enc d.reading.reg, Cod.enc d.offline] := nd rfl
@[go_sem ↓] theorem StartD.dec_eq (c0 c1 c2 c3 c4 c5 c6 c7 c8 c9 c10 c11 : V) : (Cod.dec (.agg [c0, c1, c2, c3, c4, c5, c6, c7, c8, c9, c10, c11]) : Option StartD) = bO (Cod.dec c0 : Option (ByteArray)) fun a0 => bO (Cod.dec c1 : Option (Int)) fun a1 => bO (Cod.dec c2 : Option (Int)) fun a2 => bO (Cod.dec (.agg [c3, c4, c5, c6, c7, c8]) : Option (TokD)) fun a3 => bO (Cod.dec (.agg [c9, c10]) : Option (Rdg)) fun a4 => bO (Cod.dec c11 : Option (Bool)) fun a5 => some (.mk a0 a1 a2 a3 a4 a5) := nd rfl
def StartD.ok (d : StartD) : Prop := okS d.station ∧ okI d.serial ∧ okI d.conn ∧ TokD.ok d.token ∧ Rdg.ok d.reading ∧ True
@[go_sem] theorem StartD.eta (d : StartD) : StartD.mk d.station d.serial d.conn d.token d.reading d.offline = d := nd rfl
@[go_sem ↓] theorem StartD.sz_eq : Cod.sz StartD = 12 := nd rfl

@[ext] structure ReportD where
  t : TxnD
  station : ByteArray
  reading : Rdg
  reason : Int
  offline : Bool

def ReportD.dec : V → Option ReportD
  | .agg [c0, c1, c2, c3, c4, c5, c6, c7, c8, c9, c10, c11, c12, c13] => bO (Cod.dec (.agg [c0, c1, c2, c3, c4, c5, c6, c7, c8]) : Option (TxnD)) fun a0 => bO (Cod.dec c9 : Option (ByteArray)) fun a1 => bO (Cod.dec (.agg [c10, c11]) : Option (Rdg)) fun a2 => bO (Cod.dec c12 : Option (Int)) fun a3 => bO (Cod.dec c13 : Option (Bool)) fun a4 => some (.mk a0 a1 a2 a3 a4)
  | _ => none
instance : Cod ReportD where
  enc := fun d => .agg [Cod.enc d.t.id, Cod.enc d.t.conn, Cod.enc d.t.token, Cod.enc d.t.group, Cod.enc d.t.start, Cod.enc d.t.seq, Cod.enc d.t.stopped, Cod.enc d.t.last.time, Cod.enc d.t.last.reg, Cod.enc d.station, Cod.enc d.reading.time, Cod.enc d.reading.reg, Cod.enc d.reason, Cod.enc d.offline]
  dec := ReportD.dec
  sz := 14
  len := fun _ => rfl
  dec_enc := fun d => by
    simp only [ReportD.dec, Cod.dec_enc, bO_some, show ∀ x : TxnD, (Cod.dec (.agg [Cod.enc x.id, Cod.enc x.conn, Cod.enc x.token, Cod.enc x.group, Cod.enc x.start, Cod.enc x.seq, Cod.enc x.stopped, Cod.enc x.last.time, Cod.enc x.last.reg]) : Option TxnD) = some x from fun x => Cod.dec_enc x, show ∀ x : Rdg, (Cod.dec (.agg [Cod.enc x.time, Cod.enc x.reg]) : Option Rdg) = some x from fun x => Cod.dec_enc x]
  le := fun v a h => by
    unfold ReportD.dec at h
    split at h
    · simp only [bO_eq] at h
      obtain ⟨a0, h0, a1, h1, a2, h2, a3, h3, a4, h4, he⟩ := h
      cases he
      exact .agg (.app (Cod.le _ _ h0).cells (.cons (Cod.le _ _ h1).le (.app (Cod.le _ _ h2).cells (.cons (Cod.le _ _ h3).le (.cons (Cod.le _ _ h4).le .nil)))))
    · cases h
@[go_sem ↓] theorem ReportD.enc_eq (d : ReportD) : Cod.enc d = .agg [Cod.enc d.t.id, Cod.enc d.t.conn, Cod.enc d.t.token, Cod.enc d.t.group, Cod.enc d.t.start, Cod.enc d.t.seq, Cod.enc d.t.stopped, Cod.enc d.t.last.time, Cod.enc d.t.last.reg, Cod.enc d.station, Cod.enc d.reading.time, Cod.enc d.reading.reg, Cod.enc d.reason, Cod.enc d.offline] := nd rfl
@[go_sem ↓] theorem ReportD.dec_eq (c0 c1 c2 c3 c4 c5 c6 c7 c8 c9 c10 c11 c12 c13 : V) : (Cod.dec (.agg [c0, c1, c2, c3, c4, c5, c6, c7, c8, c9, c10, c11, c12, c13]) : Option ReportD) = bO (Cod.dec (.agg [c0, c1, c2, c3, c4, c5, c6, c7, c8]) : Option (TxnD)) fun a0 => bO (Cod.dec c9 : Option (ByteArray)) fun a1 => bO (Cod.dec (.agg [c10, c11]) : Option (Rdg)) fun a2 => bO (Cod.dec c12 : Option (Int)) fun a3 => bO (Cod.dec c13 : Option (Bool)) fun a4 => some (.mk a0 a1 a2 a3 a4) := nd rfl
def ReportD.ok (d : ReportD) : Prop := TxnD.ok d.t ∧ okS d.station ∧ Rdg.ok d.reading ∧ okI d.reason ∧ True
@[go_sem] theorem ReportD.eta (d : ReportD) : ReportD.mk d.t d.station d.reading d.reason d.offline = d := nd rfl
@[go_sem ↓] theorem ReportD.sz_eq : Cod.sz ReportD = 14 := nd rfl

@[ext] structure CourseD where
  begin_ : StartD
  readings : List Rdg
  reason : Int

def CourseD.dec : V → Option CourseD
  | .agg [c0, c1, c2, c3, c4, c5, c6, c7, c8, c9, c10, c11, c12, c13] => bO (Cod.dec (.agg [c0, c1, c2, c3, c4, c5, c6, c7, c8, c9, c10, c11]) : Option (StartD)) fun a0 => bO (Cod.dec c12 : Option (List Rdg)) fun a1 => bO (Cod.dec c13 : Option (Int)) fun a2 => some (.mk a0 a1 a2)
  | _ => none
instance : Cod CourseD where
  enc := fun d => .agg [Cod.enc d.begin_.station, Cod.enc d.begin_.serial, Cod.enc d.begin_.conn, Cod.enc d.begin_.token.id, Cod.enc d.begin_.token.group, Cod.enc d.begin_.token.contract, Cod.enc d.begin_.token.kind, Cod.enc d.begin_.token.status, Cod.enc d.begin_.token.expiry, Cod.enc d.begin_.reading.time, Cod.enc d.begin_.reading.reg, Cod.enc d.begin_.offline, Cod.enc d.readings, Cod.enc d.reason]
  dec := CourseD.dec
  sz := 14
  len := fun _ => rfl
  dec_enc := fun d => by
    simp only [CourseD.dec, Cod.dec_enc, bO_some, show ∀ x : StartD, (Cod.dec (.agg [Cod.enc x.station, Cod.enc x.serial, Cod.enc x.conn, Cod.enc x.token.id, Cod.enc x.token.group, Cod.enc x.token.contract, Cod.enc x.token.kind, Cod.enc x.token.status, Cod.enc x.token.expiry, Cod.enc x.reading.time, Cod.enc x.reading.reg, Cod.enc x.offline]) : Option StartD) = some x from fun x => Cod.dec_enc x]
  le := fun v a h => by
    unfold CourseD.dec at h
    split at h
    · simp only [bO_eq] at h
      obtain ⟨a0, h0, a1, h1, a2, h2, he⟩ := h
      cases he
      exact .agg (.app (Cod.le _ _ h0).cells (.cons (Cod.le _ _ h1).le (.cons (Cod.le _ _ h2).le .nil)))
    · cases h
@[go_sem ↓] theorem CourseD.enc_eq (d : CourseD) : Cod.enc d = .agg [Cod.enc d.begin_.station, Cod.enc d.begin_.serial, Cod.enc d.begin_.conn, Cod.enc d.begin_.token.id, Cod.enc d.begin_.token.group, Cod.enc d.begin_.token.contract, Cod.enc d.begin_.token.kind, Cod.enc d.begin_.token.status, Cod.enc d.begin_.token.expiry, Cod.enc d.begin_.reading.time, Cod.enc d.begin_.reading.reg, Cod.enc d.begin_.offline, Cod.enc d.readings, Cod.enc d.reason] := nd rfl
@[go_sem ↓] theorem CourseD.dec_eq (c0 c1 c2 c3 c4 c5 c6 c7 c8 c9 c10 c11 c12 c13 : V) : (Cod.dec (.agg [c0, c1, c2, c3, c4, c5, c6, c7, c8, c9, c10, c11, c12, c13]) : Option CourseD) = bO (Cod.dec (.agg [c0, c1, c2, c3, c4, c5, c6, c7, c8, c9, c10, c11]) : Option (StartD)) fun a0 => bO (Cod.dec c12 : Option (List Rdg)) fun a1 => bO (Cod.dec c13 : Option (Int)) fun a2 => some (.mk a0 a1 a2) := nd rfl
def CourseD.ok (d : CourseD) : Prop := StartD.ok d.begin_ ∧ okL (Rdg.ok) d.readings ∧ okI d.reason
@[go_sem] theorem CourseD.eta (d : CourseD) : CourseD.mk d.begin_ d.readings d.reason = d := nd rfl
@[go_sem ↓] theorem CourseD.sz_eq : Cod.sz CourseD = 14 := nd rfl

@[ext] structure KeyD where
  station : ByteArray
  txn : ByteArray
  seq : Int

def KeyD.dec : V → Option KeyD
  | .agg [c0, c1, c2] => bO (Cod.dec c0 : Option (ByteArray)) fun a0 => bO (Cod.dec c1 : Option (ByteArray)) fun a1 => bO (Cod.dec c2 : Option (Int)) fun a2 => some (.mk a0 a1 a2)
  | _ => none
instance : Cod KeyD where
  enc := fun d => .agg [Cod.enc d.station, Cod.enc d.txn, Cod.enc d.seq]
  dec := KeyD.dec
  sz := 3
  len := fun _ => rfl
  dec_enc := fun d => by
    simp only [KeyD.dec, Cod.dec_enc, bO_some]
  le := fun v a h => by
    unfold KeyD.dec at h
    split at h
    · simp only [bO_eq] at h
      obtain ⟨a0, h0, a1, h1, a2, h2, he⟩ := h
      cases he
      exact .agg (.cons (Cod.le _ _ h0).le (.cons (Cod.le _ _ h1).le (.cons (Cod.le _ _ h2).le .nil)))
    · cases h
@[go_sem ↓] theorem KeyD.enc_eq (d : KeyD) : Cod.enc d = .agg [Cod.enc d.station, Cod.enc d.txn, Cod.enc d.seq] := nd rfl
@[go_sem ↓] theorem KeyD.dec_eq (c0 c1 c2 : V) : (Cod.dec (.agg [c0, c1, c2]) : Option KeyD) = bO (Cod.dec c0 : Option (ByteArray)) fun a0 => bO (Cod.dec c1 : Option (ByteArray)) fun a1 => bO (Cod.dec c2 : Option (Int)) fun a2 => some (.mk a0 a1 a2) := nd rfl
def KeyD.ok (d : KeyD) : Prop := okS d.station ∧ okS d.txn ∧ okI d.seq
@[go_sem] theorem KeyD.eta (d : KeyD) : KeyD.mk d.station d.txn d.seq = d := nd rfl
@[go_sem ↓] theorem KeyD.sz_eq : Cod.sz KeyD = 3 := nd rfl

end Go.Idl
