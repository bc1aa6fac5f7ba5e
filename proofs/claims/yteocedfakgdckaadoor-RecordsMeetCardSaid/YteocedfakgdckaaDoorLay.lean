/- What is known of the table of powers; a number's decimal digits. -/
import Derived.Test.YteocedfakgdckaaDoorRows
import Derived.Test.YteocedfakgdckaaDoorIdlM4
namespace Go.Proofs.YteocedfakgdckaaDoor
set_option linter.all false
open Go.Idl Go.RowKit
def powName : String := "internal/strconv.uint64pow10"
theorem gPow : Tryd.prog.globalNamed powName = some 0 := by kernel_rfl
def powTab : Array Value := ((List.range 20).map fun i => Value.int .u64 ((10 ^ i : Nat) : Int)).toArray
theorem pow_stays {W W' : World} {g : Nat} {n : String} {cs : Array Value} (hg : Tryd.prog.globalNamed n = some g) (hb : Below W.heap.size W W') (h : W.var? Tryd.prog n = some cs) : W'.var? Tryd.prog n = some cs := by
  unfold World.var? at h ⊢
  rw [hg] at h ⊢
  simp only [Option.bind_some] at h ⊢
  by_cases hlt : g < W.heap.size
  · rw [hb.block g hlt]; exact h
  · rw [show W.heap[g]? = none from Array.getElem?_eq_none (by omega)] at h
    cases h
instance laidPow : Laid := ⟨fun w => w.var? Tryd.prog powName = some powTab, fun hb h => pow_stays gPow hb h⟩
def dg : Nat → Nat → List UInt8
  | 0, _ => []
  | f + 1, u => if u < 10 then [UInt8.ofNat (48 + u)] else dg f (u / 10) ++ [UInt8.ofNat (48 + u % 10)]
def numS (n : Int) : ByteArray := ⟨(dg 10 n.toNat).toArray⟩
theorem dg_len : ∀ (f u : Nat), (dg f u).length ≤ f
  | 0, _ => by simp [dg]
  | f + 1, u => by
    rw [dg]
    have := dg_len f (u / 10)
    split <;> simp <;> omega
theorem numS_len (n : Int) : (numS n).size ≤ 10 := by
  have := dg_len 10 n.toNat
  simpa [numS, ByteArray.size] using this
def Fitoa : List V → Option V
  | [.sc (.int .i64 n)] => if 0 ≤ n ∧ n ≤ 2147483647 then some (.sc (.string (numS n))) else none
  | _ => none
end Go.Proofs.YteocedfakgdckaaDoor
