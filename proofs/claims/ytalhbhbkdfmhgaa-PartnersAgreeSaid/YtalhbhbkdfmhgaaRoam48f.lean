/- What a party has that another one has. -/
import Derived.Test.YtalhbhbkdfmhgaaRoam48e
namespace Go.Proofs.Ytalhbhbkdfmhgaa
set_option linter.all false
open Go.Idl
set_option maxHeartbeats 4000000
set_option maxRecDepth 100000
attribute [local go_sem] agPty agCdr agDis eqDis agDir agObj eqItm Try.underlying3 Try.underlying5 Try.underlying9 Try.underlying4
def sameAt {α : Type} (eq : α → α → Bool) (x : α) : Option α → Bool
  | some o => eq x o
  | none => false
def okRec (p q : PartyD) (c : CdrD) : Bool := !pairB p.name q.name c || sameAt eqC c (getI CdrD.id q.cdrs c.id)
def okDis (p q : PartyD) (d : Disp) : Bool := match getI CdrD.id p.cdrs d.cdr with
  | none => true
  | some c => !pairB p.name q.name c || sameAt (fun x y => eqDs y x) d (getI Disp.cdr q.disputes d.cdr)
def hasS (p q : PartyD) : Bool := p.cdrs.all (okRec p q) && p.disputes.all (okDis p q)
end Go.Proofs.Ytalhbhbkdfmhgaa
