/-
  Structures of the program's package api, and how they stand as ideal values.
-/
import Derived.Test.YtkgjifofpejanaaIdlZC
namespace Go.Idl
set_option linter.all false

@[ext] structure Rdg where
  time : Int
  reg : Int

def Rdg.dec : V → Option Rdg
  | .agg [c0, c1] => bO (Cod.dec c0 : Option (Int)) fun a0 => bO (Cod.dec c1 : Option (Int)) fun a1 => some (.mk a0 a1)
  | _ => none
instance : Cod Rdg where
  enc := fun d => .agg [Cod.enc d.time, Cod.enc d.reg]
  dec := Rdg.dec
  sz := 2
  len := fun _ => rfl
  dec_enc := fun d => by
    simp only [Rdg.dec, Cod.dec_enc, bO_some]
  le := fun v a h => by
    unfold Rdg.dec at h
    split at h
    · simp only [bO_eq] at h
      obtain ⟨a0, h0, a1, h1, he⟩ := h
      cases he
      exact .agg (.cons (Cod.le _ _ h0).le (.cons (Cod.le _ _ h1).le .nil))
    · cases h
@[go_sem ↓] theorem Rdg.enc_eq (d : Rdg) : Cod.enc d = .agg [Cod.enc d.time, Cod.enc d.reg] := nd rfl
@[go_sem ↓] theorem Rdg.dec_eq (c0 c1 : V) : (Cod.dec (.agg [c0, c1]) : Option Rdg) = bO (Cod.dec c0 : Option (Int)) fun a0 => bO (Cod.dec c1 : Option (Int)) fun a1 => some (.mk a0 a1) := nd rfl
def Rdg.ok (d : Rdg) : Prop := okI d.time ∧ okI d.reg
@[go_sem] theorem Rdg.eta (d : Rdg) : Rdg.mk d.time d.reg = d := nd rfl
@[go_sem ↓] theorem Rdg.sz_eq : Cod.sz Rdg = 2 := nd rfl

@[ext] structure UseD where
  energy : Int
  idle : Bool

def UseD.dec : V → Option UseD
  | .agg [c0, c1] => bO (Cod.dec c0 : Option (Int)) fun a0 => bO (Cod.dec c1 : Option (Bool)) fun a1 => some (.mk a0 a1)
  | _ => none
instance : Cod UseD where
  enc := fun d => .agg [Cod.enc d.energy, Cod.enc d.idle]
  dec := UseD.dec
  sz := 2
  len := fun _ => rfl
  dec_enc := fun d => by
    simp only [UseD.dec, Cod.dec_enc, bO_some]
  le := fun v a h => by
    unfold UseD.dec at h
    split at h
    · simp only [bO_eq] at h
      obtain ⟨a0, h0, a1, h1, he⟩ := h
      cases he
      exact .agg (.cons (Cod.le _ _ h0).le (.cons (Cod.le _ _ h1).le .nil))
    · cases h
@[go_sem ↓] theorem UseD.enc_eq (d : UseD) : Cod.enc d = .agg [Cod.enc d.energy, Cod.enc d.idle] := nd rfl
@[go_sem ↓] theorem UseD.dec_eq (c0 c1 : V) : (Cod.dec (.agg [c0, c1]) : Option UseD) = bO (Cod.dec c0 : Option (Int)) fun a0 => bO (Cod.dec c1 : Option (Bool)) fun a1 => some (.mk a0 a1) := nd rfl
def UseD.ok (d : UseD) : Prop := okI d.energy ∧ True
@[go_sem] theorem UseD.eta (d : UseD) : UseD.mk d.energy d.idle = d := nd rfl
@[go_sem ↓] theorem UseD.sz_eq : Cod.sz UseD = 2 := nd rfl

@[ext] structure ItemD where
  kind : Int
  price : Int
  tax : Int
  quantity : Int
  net : Int
  vat : Int
  gross : Int

def ItemD.dec : V → Option ItemD
  | .agg [c0, c1, c2, c3, c4, c5, c6] => bO (Cod.dec c0 : Option (Int)) fun a0 => bO (Cod.dec c1 : Option (Int)) fun a1 => bO (Cod.dec c2 : Option (Int)) fun a2 => bO (Cod.dec c3 : Option (Int)) fun a3 => bO (Cod.dec c4 : Option (Int)) fun a4 => bO (Cod.dec c5 : Option (Int)) fun a5 => bO (Cod.dec c6 : Option (Int)) fun a6 => some (.mk a0 a1 a2 a3 a4 a5 a6)
  | _ => none
instance : Cod ItemD where
  enc := fun d => .agg [Cod.enc d.kind, Cod.enc d.price, Cod.enc d.tax, Cod.enc d.quantity, Cod.enc d.net, Cod.enc d.vat, Cod.enc d.gross]
  dec := ItemD.dec
  sz := 7
  len := fun _ => rfl
  dec_enc := fun d => by
    simp only [ItemD.dec, Cod.dec_enc, bO_some]
  le := fun v a h => by
    unfold ItemD.dec at h
    split at h
    · simp only [bO_eq] at h
      obtain ⟨a0, h0, a1, h1, a2, h2, a3, h3, a4, h4, a5, h5, a6, h6, he⟩ := h
      cases he
      exact .agg (.cons (Cod.le _ _ h0).le (.cons (Cod.le _ _ h1).le (.cons (Cod.le _ _ h2).le (.cons (Cod.le _ _ h3).le (.cons (Cod.le _ _ h4).le (.cons (Cod.le _ _ h5).le (.cons (Cod.le _ _ h6).le .nil)))))))
    · cases h
@[go_sem ↓] theorem ItemD.enc_eq (d : ItemD) : Cod.enc d = .agg [Cod.enc d.kind, Cod.enc d.price, Cod.enc d.tax, Cod.enc d.quantity, Cod.enc d.net, Cod.enc d.vat, Cod.enc d.gross] := nd rfl
@[go_sem ↓] theorem ItemD.dec_eq (c0 c1 c2 c3 c4 c5 c6 : V) : (Cod.dec (.agg [c0, c1, c2, c3, c4, c5, c6]) : Option ItemD) = bO (Cod.dec c0 : Option (Int)) fun a0 => bO (Cod.dec c1 : Option (Int)) fun a1 => bO (Cod.dec c2 : Option (Int)) fun a2 => bO (Cod.dec c3 : Option (Int)) fun a3 => bO (Cod.dec c4 : Option (Int)) fun a4 => bO (Cod.dec c5 : Option (Int)) fun a5 => bO (Cod.dec c6 : Option (Int)) fun a6 => some (.mk a0 a1 a2 a3 a4 a5 a6) := nd rfl
def ItemD.ok (d : ItemD) : Prop := okI d.kind ∧ okI d.price ∧ okI d.tax ∧ okI d.quantity ∧ okI d.net ∧ okI d.vat ∧ okI d.gross
@[go_sem] theorem ItemD.eta (d : ItemD) : ItemD.mk d.kind d.price d.tax d.quantity d.net d.vat d.gross = d := nd rfl
@[go_sem ↓] theorem ItemD.sz_eq : Cod.sz ItemD = 7 := nd rfl

@[ext] structure CdrD where
  id : ByteArray
  operator : ByteArray
  provider : ByteArray
  session : ByteArray
  version : Int
  start : Int
  stop : Int
  energy : Int
  tariff : ByteArray
  currency : ByteArray
  items : List ItemD
  total : Int
  credit : Bool
  ref : ByteArray

def CdrD.dec : V → Option CdrD
  | .agg [c0, c1, c2, c3, c4, c5, c6, c7, c8, c9, c10, c11, c12, c13] => bO (Cod.dec c0 : Option (ByteArray)) fun a0 => bO (Cod.dec c1 : Option (ByteArray)) fun a1 => bO (Cod.dec c2 : Option (ByteArray)) fun a2 => bO (Cod.dec c3 : Option (ByteArray)) fun a3 => bO (Cod.dec c4 : Option (Int)) fun a4 => bO (Cod.dec c5 : Option (Int)) fun a5 => bO (Cod.dec c6 : Option (Int)) fun a6 => bO (Cod.dec c7 : Option (Int)) fun a7 => bO (Cod.dec c8 : Option (ByteArray)) fun a8 => bO (Cod.dec c9 : Option (ByteArray)) fun a9 => bO (Cod.dec c10 : Option (List ItemD)) fun a10 => bO (Cod.dec c11 : Option (Int)) fun a11 => bO (Cod.dec c12 : Option (Bool)) fun a12 => bO (Cod.dec c13 : Option (ByteArray)) fun a13 => some (.mk a0 a1 a2 a3 a4 a5 a6 a7 a8 a9 a10 a11 a12 a13)
  | _ => none
instance : Cod CdrD where
  enc := fun d => .agg [Cod.enc d.id, Cod.enc d.operator, Cod.enc d.provider, Cod.enc d.session, Cod.enc d.version, Cod.enc d.start, Cod.enc d.stop, Cod.enc d.energy, Cod.enc d.tariff, Cod.enc d.currency, Cod.enc d.items, Cod.enc d.total, Cod.enc d.credit, Cod.enc d.ref]
  dec := CdrD.dec
  sz := 14
  len := fun _ => rfl
  dec_enc := fun d => by
    simp only [CdrD.dec, Cod.dec_enc, bO_some]
  le := fun v a h => by
    unfold CdrD.dec at h
    split at h
    · simp only [bO_eq] at h
      obtain ⟨a0, h0, a1, h1, a2, h2, a3, h3, a4, h4, a5, h5, a6, h6, a7, h7, a8, h8, a9, h9, a10, h10, a11, h11, a12, h12, a13, h13, he⟩ := h
      cases he
      exact .agg (.cons (Cod.le _ _ h0).le (.cons (Cod.le _ _ h1).le (.cons (Cod.le _ _ h2).le (.cons (Cod.le _ _ h3).le (.cons (Cod.le _ _ h4).le (.cons (Cod.le _ _ h5).le (.cons (Cod.le _ _ h6).le (.cons (Cod.le _ _ h7).le (.cons (Cod.le _ _ h8).le (.cons (Cod.le _ _ h9).le (.cons (Cod.le _ _ h10).le (.cons (Cod.le _ _ h11).le (.cons (Cod.le _ _ h12).le (.cons (Cod.le _ _ h13).le .nil))))))))))))))
    · cases h
@[go_sem ↓] theorem CdrD.enc_eq (d : CdrD) : Cod.enc d = .agg [Cod.enc d.id, Cod.enc d.operator, Cod.enc d.provider, Cod.enc d.session, Cod.enc d.version, Cod.enc d.start, Cod.enc d.stop, Cod.enc d.energy, Cod.enc d.tariff, Cod.enc d.currency, Cod.enc d.items, Cod.enc d.total, Cod.enc d.credit, Cod.enc d.ref] := nd rfl
@[go_sem ↓] theorem CdrD.dec_eq (c0 c1 c2 c3 c4 c5 c6 c7 c8 c9 c10 c11 c12 c13 : V) : (Cod.dec (.agg [c0, c1, c2, c3, c4, c5, c6, c7, c8, c9, c10, c11, c12, c13]) : Option CdrD) = bO (Cod.dec c0 : Option (ByteArray)) fun a0 => bO (Cod.dec c1 : Option (ByteArray)) fun a1 => bO (Cod.dec c2 : Option (ByteArray)) fun a2 => bO (Cod.dec c3 : Option (ByteArray)) fun a3 => bO (Cod.dec c4 : Option (Int)) fun a4 => bO (Cod.dec c5 : Option (Int)) fun a5 => bO (Cod.dec c6 : Option (Int)) fun a6 => bO (Cod.dec c7 : Option (Int)) fun a7 => bO (Cod.dec c8 : Option (ByteArray)) fun a8 => bO (Cod.dec c9 : Option (ByteArray)) fun a9 => bO (Cod.dec c10 : Option (List ItemD)) fun a10 => bO (Cod.dec c11 : Option (Int)) fun a11 => bO (Cod.dec c12 : Option (Bool)) fun a12 => bO (Cod.dec c13 : Option (ByteArray)) fun a13 => some (.mk a0 a1 a2 a3 a4 a5 a6 a7 a8 a9 a10 a11 a12 a13) := nd rfl
def CdrD.ok (d : CdrD) : Prop := okS d.id ∧ okS d.operator ∧ okS d.provider ∧ okS d.session ∧ okI d.version ∧ okI d.start ∧ okI d.stop ∧ okI d.energy ∧ okS d.tariff ∧ okS d.currency ∧ okL (ItemD.ok) d.items ∧ okI d.total ∧ True ∧ okS d.ref
@[go_sem] theorem CdrD.eta (d : CdrD) : CdrD.mk d.id d.operator d.provider d.session d.version d.start d.stop d.energy d.tariff d.currency d.items d.total d.credit d.ref = d := nd rfl
@[go_sem ↓] theorem CdrD.sz_eq : Cod.sz CdrD = 14 := nd rfl

@[ext] structure Disp where
  cdr : ByteArray
  who : ByteArray
  state : Int
  opened : Int
  claim : Int
  granted : Int

def Disp.dec : V → Option Disp
  | .agg [c0, c1, c2, c3, c4, c5] => bO (Cod.dec c0 : Option (ByteArray)) fun a0 => bO (Cod.dec c1 : Option (ByteArray)) fun a1 => bO (Cod.dec c2 : Option (Int)) fun a2 => bO (Cod.dec c3 : Option (Int)) fun a3 => bO (Cod.dec c4 : Option (Int)) fun a4 => bO (Cod.dec c5 : Option (Int)) fun a5 => some (.mk a0 a1 a2 a3 a4 a5)
  | _ => none
instance : Cod Disp where
  enc := fun d => .agg [Cod.enc d.cdr, Cod.enc d.who, Cod.enc d.state, Cod.enc d.opened, Cod.enc d.claim, Cod.enc d.granted]
  dec := Disp.dec
  sz := 6
  len := fun _ => rfl
  dec_enc := fun d => by
    simp only [Disp.dec, Cod.dec_enc, bO_some]
  le := fun v a h => by
    unfold Disp.dec at h
    split at h
    · simp only [bO_eq] at h
      obtain ⟨a0, h0, a1, h1, a2, h2, a3, h3, a4, h4, a5, h5, he⟩ := h
      cases he
      exact .agg (.cons (Cod.le _ _ h0).le (.cons (Cod.le _ _ h1).le (.cons (Cod.le _ _ h2).le (.cons (Cod.le _ _ h3).le (.cons (Cod.le _ _ h4).le (.cons (Cod.le _ _ h5).le .nil))))))
    · cases h
@[go_sem ↓] theorem Disp.enc_eq (d : Disp) : Cod.enc d = .agg [Cod.enc d.cdr, Cod.enc d.who, Cod.enc d.state, Cod.enc d.opened, Cod.enc d.claim, Cod.enc d.granted] := nd rfl
@[go_sem ↓] theorem Disp.dec_eq (c0 c1 c2 c3 c4 c5 : V) : (Cod.dec (.agg [c0, c1, c2, c3, c4, c5]) : Option Disp) = bO (Cod.dec c0 : Option (ByteArray)) fun a0 => bO (Cod.dec c1 : Option (ByteArray)) fun a1 => bO (Cod.dec c2 : Option (Int)) fun a2 => bO (Cod.dec c3 : Option (Int)) fun a3 => bO (Cod.dec c4 : Option (Int)) fun a4 => bO (Cod.dec c5 : Option (Int)) fun a5 => some (.mk a0 a1 a2 a3 a4 a5) := nd rfl
def Disp.ok (d : Disp) : Prop := okS d.cdr ∧ okS d.who ∧ okI d.state ∧ okI d.opened ∧ okI d.claim ∧ okI d.granted
@[go_sem] theorem Disp.eta (d : Disp) : Disp.mk d.cdr d.who d.state d.opened d.claim d.granted = d := nd rfl
@[go_sem ↓] theorem Disp.sz_eq : Cod.sz Disp = 6 := nd rfl

@[ext] structure MoveD where
  who : ByteArray
  action : Int
  amount : Int
  now : Int

def MoveD.dec : V → Option MoveD
  | .agg [c0, c1, c2, c3] => bO (Cod.dec c0 : Option (ByteArray)) fun a0 => bO (Cod.dec c1 : Option (Int)) fun a1 => bO (Cod.dec c2 : Option (Int)) fun a2 => bO (Cod.dec c3 : Option (Int)) fun a3 => some (.mk a0 a1 a2 a3)
  | _ => none
instance : Cod MoveD where
  enc := fun d => .agg [Cod.enc d.who, Cod.enc d.action, Cod.enc d.amount, Cod.enc d.now]
  dec := MoveD.dec
  sz := 4
  len := fun _ => rfl
  dec_enc := fun d => by
    simp only [MoveD.dec, Cod.dec_enc, bO_some]
  le := fun v a h => by
    unfold MoveD.dec at h
    split at h
    · simp only [bO_eq] at h
      obtain ⟨a0, h0, a1, h1, a2, h2, a3, h3, he⟩ := h
      cases he
      exact .agg (.cons (Cod.le _ _ h0).le (.cons (Cod.le _ _ h1).le (.cons (Cod.le _ _ h2).le (.cons (Cod.le _ _ h3).le .nil))))
    · cases h
@[go_sem ↓] theorem MoveD.enc_eq (d : MoveD) : Cod.enc d = .agg [Cod.enc d.who, Cod.enc d.action, Cod.enc d.amount, Cod.enc d.now] := nd rfl
@[go_sem ↓] theorem MoveD.dec_eq (c0 c1 c2 c3 : V) : (Cod.dec (.agg [c0, c1, c2, c3]) : Option MoveD) = bO (Cod.dec c0 : Option (ByteArray)) fun a0 => bO (Cod.dec c1 : Option (Int)) fun a1 => bO (Cod.dec c2 : Option (Int)) fun a2 => bO (Cod.dec c3 : Option (Int)) fun a3 => some (.mk a0 a1 a2 a3) := nd rfl
def MoveD.ok (d : MoveD) : Prop := okS d.who ∧ okI d.action ∧ okI d.amount ∧ okI d.now
@[go_sem] theorem MoveD.eta (d : MoveD) : MoveD.mk d.who d.action d.amount d.now = d := nd rfl
@[go_sem ↓] theorem MoveD.sz_eq : Cod.sz MoveD = 4 := nd rfl

end Go.Idl
