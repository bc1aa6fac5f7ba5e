/- The events of a transaction. -/
import Derived.Test.YtnafhnnhhdmnfaaPut36b
namespace Go.Proofs.Ytnafhnnhhdmnfaa
set_option linter.all false
open Go.Idl
set_option maxHeartbeats 4000000
set_option maxRecDepth 100000
attribute [local go_sem] Try.underlying3 Try.underlying75 Try.underlying9 Try.underlying4 agKey
abbrev SOf : List V → Option V := FT fun (t : List EvD × ByteArray × ByteArray × Unit) => if colS t.1 = 0 then some (segB t.1 (kAt t.2.1 t.2.2.1)) else none
theorem segB_mem {l : List EvD} {k : KeyD} {x : EvD} (h : x ∈ segB l k) : x ∈ l := List.mem_of_mem_take (List.mem_of_mem_drop h)
theorem segB_len (l : List EvD) (k : KeyD) : (segB l k).length = toB l k - fromB l k := by
  have := toB_le l k
  simp [segB]; omega
theorem con18 {Φ : Specs} (hg : Idl.Good Try.prog Φ) (h34 : Φ 34 = some SBounds) (h37 : Φ 37 = none) : Contract Try.prog 18 SOf := by
  refine conT hg k18 ic18 (by decide) fun C t r h => ?_
  obtain ⟨l, x, y, u⟩ := t
  dsimp only at h
  split at h
  · rename_i hl
    have hC := colS_ok.1 hl
    cases h
    have hlen := hC.len
    obtain ⟨t1, t2⟩ := toB_le l (kAt x y)
    have hsl : List.drop (fromB l (kAt x y)) (List.take (toB l (kAt x y)) (List.map Cod.enc l)) = (segB l (kAt x y)).map Cod.enc := by rw [segB, List.map_drop, List.map_take]
    have hsg := segB_len l (kAt x y)
    have w1 : IntKind.i64.wrap ((toB l (kAt x y) : Int) - (fromB l (kAt x y) : Int)) = ((segB l (kAt x y)).length : Int) := by rw [IntKind.wrap_i64, hsg]; omega
    have b1 : 120 * (segB l (kAt x y)).length ≤ 281474976710656 := by omega
    have b2 : ((segB l (kAt x y)).length : Int) ≤ 4294967296 := by omega
    simp +contextual only [go_sem, ↓reduceIte, Nat.reduceEqDiff, Nat.reduceAdd, Nat.reduceLeDiff, Nat.reduceLT, reduceCtorEq, c18, k18, List.length_map, h34, hl, Int.natCast_nonneg, Int.toNat_natCast, t1, t2, hsl, true_and, and_true, w1, b1, b2, Int.le_refl, List.replicate_zero, Int.toNat_zero, Option.map_none, Option.map_some, h37]
    refine ⟨rfl, rfl, ?_⟩
    refine ct37 (es := []) (l := segB l (kAt x y)) (r := 3) (n := 8) hg (by omega) (by simp [updH]) (fun id hid => by unfold updH; split <;> rfl) (fun k => by unfold updH; rw [if_neg (by omega)]) (by simp; omega) ?_
      (fun z hz => ev_rds_ne (hC.ok z (segB_mem hz))) (LowC.top _ _) (by repeat (first | exact LowT.pnil | apply LowT.upd | apply LowT.prune | apply LowT.pcons | rfl | exact low_evs _ _)) fun τ' rd mu => ?_
    · have := nRds_le (l := segB l (kAt x y)) fun z hz => hC.ok z (segB_mem hz)
      omega
    simp +contextual only [go_sem, ↓reduceIte, Nat.reduceEqDiff, Nat.reduceAdd, Nat.reduceLeDiff, Nat.reduceLT, reduceCtorEq, List.nil_append, List.length_map, List.length_nil, Nat.zero_add, Nat.le_refl, isF_evs, true_and, and_true, List.drop_zero, List.take_length]
    rw [List.take_of_length_le (by simp)]
    simp +contextual only [go_sem, ↓reduceIte, Nat.reduceEqDiff, Nat.reduceAdd, Nat.reduceLeDiff, Nat.reduceLT, reduceCtorEq]
  · cases h
end Go.Proofs.Ytnafhnnhhdmnfaa
