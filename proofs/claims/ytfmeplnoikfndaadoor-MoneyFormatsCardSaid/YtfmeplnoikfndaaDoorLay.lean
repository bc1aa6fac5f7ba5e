/- What is known of the library's variables: the table of powers, and two errors. -/
import Derived.Test.YtfmeplnoikfndaaDoorRows
import Derived.Test.YtfmeplnoikfndaaDoorIdlM4
namespace Go.Proofs.YtfmeplnoikfndaaDoor
set_option linter.all false
open Go.Idl Go.RowKit
theorem var_stays {W W' : World} {g : Nat} {n : String} {cs : Array Value} (hg : Tryd.prog.globalNamed n = some g) (hb : Below W.heap.size W W') (h : W.var? Tryd.prog n = some cs) : W'.var? Tryd.prog n = some cs := by
  unfold World.var? at h ⊢
  rw [hg] at h ⊢
  simp only [Option.bind_some] at h ⊢
  by_cases hlt : g < W.heap.size
  · rw [hb.block g hlt]; exact h
  · rw [show W.heap[g]? = none from Array.getElem?_eq_none (by omega)] at h
    cases h
theorem gKnown : (Tryd.prog.globalNamed "internal/strconv.uint64pow10").isSome = true ∧ (Tryd.prog.globalNamed "strconv.ErrSyntax").isSome = true ∧ (Tryd.prog.globalNamed "strconv.ErrRange").isSome = true := ⟨by kernel_rfl, by kernel_rfl, by kernel_rfl⟩
theorem var_keeps {W W' : World} {n : String} {cs : Array Value} (hg : (Tryd.prog.globalNamed n).isSome = true) (hb : Below W.heap.size W W') (h : W.var? Tryd.prog n = some cs) : W'.var? Tryd.prog n = some cs := by
  obtain ⟨g, hg⟩ := Option.isSome_iff_exists.1 hg
  exact var_stays hg hb h
def powTab : Array Value := ((List.range 20).map fun i => Value.int .u64 ((10 ^ i : Nat) : Int)).toArray
instance laid03 : Laid := ⟨fun w => w.var? Tryd.prog "internal/strconv.uint64pow10" = some powTab ∧ (∃ t p, w.var? Tryd.prog "strconv.ErrSyntax" = some #[.iface t p]) ∧ ∃ t p, w.var? Tryd.prog "strconv.ErrRange" = some #[.iface t p],
  fun hb ⟨h1, ⟨t, p, h2⟩, t', p', h3⟩ => ⟨var_keeps gKnown.1 hb h1, ⟨t, p, var_keeps gKnown.2.1 hb h2⟩, t', p', var_keeps gKnown.2.2 hb h3⟩⟩
end Go.Proofs.YtfmeplnoikfndaaDoor
