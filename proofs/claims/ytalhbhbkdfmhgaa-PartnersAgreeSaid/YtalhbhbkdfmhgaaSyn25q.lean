/- Sync: what it computes; the region in which both parties are copied. -/
import Derived.Test.YtalhbhbkdfmhgaaMgd25
namespace Go.Proofs.Ytalhbhbkdfmhgaa
set_option linter.all false
open Go.Idl
set_option maxHeartbeats 16000000
set_option maxRecDepth 100000
attribute [local go_sem] agPty agCdr agDis eqDis agDir agObj eqItm Try.underlying3 Try.underlying5 Try.underlying9 Try.underlying4
def conB (q : List CdrD) (c : CdrD) : Bool := match getI CdrD.id q c.id with
  | some o => !eqC c o
  | none => false
def conR (a b : PartyD) : Bool := a.cdrs.any (conB b.cdrs)
def newsR (p : PartyD) : List ObjD := newsD p.dir.objects p.dir.marks 0
def dirA (a b : PartyD) : DirD := (mergeS a.dir (newsR b)).1
def halfP (a b : PartyD) : PartyD := ⟨a.name, dirA a b, a.cdrs ++ misR b a, a.disputes⟩
def dsX (a b : PartyD) (x y : ByteArray) : List Disp := mgD a.disputes (pairDs (halfP b a) x y)
def newA (a b : PartyD) (x y : ByteArray) : PartyD := ⟨a.name, dirA a b, a.cdrs ++ misR b a, dsX a b x y⟩
def overR (a b : PartyD) : Bool := decide ((a.cdrs.length : Int) + ((misR b a).length : Int) > 256) || decide ((b.cdrs.length : Int) + ((misR a b).length : Int) > 256)
def overD (a b : PartyD) : Bool := decide (((dsX a b a.name b.name).length : Int) > 256) || decide (((dsX b a a.name b.name).length : Int) > 256)
def syncS (a b : PartyD) : PartyD × PartyD × Int := bif conR a b then (a, b, 23) else bif overR a b then (a, b, 3) else bif overD a b then (a, b, 3) else (newA a b a.name b.name, newA b a a.name b.name, 0)
structure OkY (p : PartyD) : Prop where
  s : okS p = true
  dat : okDat p.dir.objects = true
  v : validP p = 0
  n : p.dir.next ≤ 2305843009213693952
instance (p : PartyD) : Decidable (OkY p) := if h : okS p = true ∧ okDat p.dir.objects = true ∧ validP p = 0 ∧ p.dir.next ≤ 2305843009213693952 then isTrue ⟨h.1, h.2.1, h.2.2.1, h.2.2.2⟩ else isFalse fun k => h ⟨k.1, k.2, k.3, k.4⟩
abbrev SSyn : List V → Option V := FT fun (t : PartyD × PartyD × Unit) => if OkY t.1 ∧ OkY t.2.1 ∧ ¬ t.1.name = t.2.1.name then some (syncS t.1 t.2.1) else none
structure Ids where
  m : Nat
  o : Nat
  c : Nat
  d : Nat
abbrev outI (p : PartyD) (i : Ids) : V := outP p i.m (.own i.o 0 p.dir.objects.length) (.own i.c 0 p.cdrs.length) (.own i.d 0 p.disputes.length)
abbrev cellsI (p : PartyD) (i : Ids) : List V := [.sc (.string p.name), .sc (.string p.dir.party), .own i.o 0 p.dir.objects.length, .own i.m 0 p.dir.marks.length, .sc (.int .i64 p.dir.next), .own i.c 0 p.cdrs.length, .own i.d 0 p.disputes.length]
abbrev zeroX : V := .agg [.sc (.string ⟨#[]⟩), .sc (.string ⟨#[]⟩), .sc (.slice none 0 0), .sc (.slice none 0 0), .sc (.int .i64 0), .sc (.slice none 0 0), .sc (.slice none 0 0), .sc (.string ⟨#[]⟩), .sc (.string ⟨#[]⟩), .sc (.slice none 0 0), .sc (.slice none 0 0), .sc (.int .i64 0), .sc (.slice none 0 0), .sc (.slice none 0 0)]
structure HasI (H : Heap) (p : PartyD) (i : Ids) (lo hi : Nat) : Prop where
  m : H i.m = .live 1 (p.dir.marks.map Cod.enc) true
  o : H i.o = .live 6 (p.dir.objects.map Cod.enc) true
  c : H i.c = .live 14 (p.cdrs.map Cod.enc) true
  d : H i.d = .live 6 (p.disputes.map Cod.enc) true
  g1 : lo ≤ i.m
  g2 : i.m < i.o
  g3 : i.o < i.c
  g4 : i.c < i.d
  g5 : i.d < hi
theorem HasI.far {H H' : Heap} {p : PartyD} {i : Ids} {lo hi hi' : Nat} (h : HasI H p i lo hi) (hh : hi ≤ hi') (he : ∀ id, id < hi → id = i.m ∨ id = i.o ∨ id = i.c ∨ id = i.d → H' id = H id) : HasI H' p i lo hi' := by
  obtain ⟨m, o, c, d, g1, g2, g3, g4, g5⟩ := h
  exact ⟨(he _ (by omega) (by simp)).trans m, (he _ (by omega) (by simp)).trans o, (he _ (by omega) (by simp)).trans c, (he _ (by omega) (by simp)).trans d, g1, g2, g3, g4, by omega⟩
structure JS (a b : PartyD) (S : Nat → Bool) (ia ib : Ids) (x : Nat) (s : SF) : Prop where
  t2 : s.τ 2 = .ref 0 0 0
  t3 : s.τ 3 = .ref 1 0 0
  t4 : s.τ 4 = .ref 2 0 0
  t5 : s.τ 5 = .ref 3 0 0
  h0 : s.H 0 = .live 7 [Cod.enc a] true
  h1 : s.H 1 = .live 7 [Cod.enc b] true
  h2 : s.H 2 = .live 7 [zeroPy] true
  h3 : s.H 3 = .live 7 [zeroPy] true
  n4 : 4 ≤ s.n
  un : ∀ id, s.n ≤ id → s.H id = .unborn
  k0 : S 0 = true → s.τ 34 = Cod.enc a
  k1 : S 1 = true → s.τ 35 = outI a ia ∧ HasI s.H a ia 4 s.n
  k2 : S 2 = true → s.τ 36 = Cod.enc b
  k3 : S 3 = true → s.τ 37 = outI b ib ∧ HasI s.H b ib (ia.d + 1) s.n
  k4 : S 4 = true → s.τ 38 = .agg (cellsI a ia ++ cellsI b ib)
  k5 : S 5 = true → s.τ 9 = .ref x 0 0 ∧ 4 ≤ x ∧ x < s.n ∧ (S 1 = true → x ≠ ia.m ∧ x ≠ ia.o ∧ x ≠ ia.c ∧ x ≠ ia.d) ∧ (S 3 = true → x ≠ ib.m ∧ x ≠ ib.o ∧ x ≠ ib.c ∧ x ≠ ib.d) ∧ (S 6 = false → s.H x = .live 14 [zeroX] true)
  k6 : S 6 = true → s.H x = .live 14 [.agg (cellsI a ia ++ cellsI b ib)] true
  d1 : S 1 = true → S 0 = true
  d3 : S 3 = true → S 1 = true ∧ S 2 = true
  d4 : S 4 = true → S 1 = true ∧ S 3 = true
  d6 : S 6 = true → S 4 = true ∧ S 5 = true
end Go.Proofs.Ytalhbhbkdfmhgaa
