/- Records: RecordUpdates. -/
import Derived.Test.YtoccifhckpjfaaaRec37i
namespace Go.Proofs.Ytoccifhckpjfaaa
set_option linter.all false
open Go.Idl
set_option maxHeartbeats 16000000
set_option maxRecDepth 100000
attribute [local go_sem] agRec Try.underlying3 Try.underlying5 Try.underlying9 Try.underlying4 Try.underlying30 Try.underlying22 Try.underlying25
theorem adj_pair : ∀ {l : List Rdg}, (∀ i x y, l[i]? = some x → l[i + 1]? = some y → x.reg ≤ y.reg) → l.Pairwise (fun a b => a.reg ≤ b.reg)
  | [], _ => .nil
  | [x], _ => by simp
  | x :: y :: l, h => by
    have ih := adj_pair (l := y :: l) (fun i a b h1 h2 => h (i + 1) a b (by simpa using h1) (by simpa using h2))
    refine List.pairwise_cons.2 ⟨fun z hz => ?_, ih⟩
    have hxy := h 0 x y rfl rfl
    rcases List.mem_cons.1 hz with rfl | hz
    · exact hxy
    · have := (List.pairwise_cons.1 ih).1 z hz; omega
theorem con3 {Φ : Specs} (hg : Idl.Good Try.prog Φ) (h7 : Φ 7 = some SSmall) (h8 : Φ 8 = some SEx) (h9 : Φ 9 = some SMake) :
    Contract Try.prog 3 (FT fun (t : List EvD × Int × KInt .u8 × Unit) => if t.1.length ≤ 9223372036854775807 then some true else none) := by
  refine conT hg k3 ic3 (by decide) fun C t r h => ?_
  obtain ⟨l, m, turn, u⟩ := t
  dsimp only at h
  by_cases hl : l.length ≤ 9223372036854775807
  case neg => rw [if_neg hl] at h; cases h
  rw [if_pos hl] at h
  cases h
  by_cases hc : smallS l = false ∨ l.length = 0
  · rcases hc with hc | hc
    · simp +contextual only [go_sem, ↓reduceIte, Nat.reduceEqDiff, Nat.reduceAdd, Nat.reduceLeDiff, Nat.reduceLT, reduceCtorEq, c3, k3, hl, hc, h7, h8, Bool.not_false, List.length_map]
    · have hz : (((l.length : Nat) : Int) == 0) = true := by rw [hc]; rfl
      cases hs : smallS l <;> simp +contextual only [go_sem, ↓reduceIte, Nat.reduceEqDiff, Nat.reduceAdd, Nat.reduceLeDiff, Nat.reduceLT, reduceCtorEq, c3, k3, hl, hs, hz, h7, h8, Bool.not_false, Bool.not_true, List.length_map]
  · have hs : smallS l = true := by cases h : smallS l <;> simp_all
    have hne : l.length ≠ 0 := fun h => hc (.inr h)
    have hz : (((l.length : Nat) : Int) == 0) = false := by simp; intro h; exact hne (by simp [h])
    have h60 := small_len hs
    have hk0 : 0 ≤ turn.1 := turn.2.1
    obtain ⟨tn, htn⟩ := Int.eq_ofNat_of_zero_le hk0
    have hk255 : tn ≤ 255 := by have := turn.2.2; rw [htn] at this; simp [IntKind.max, IntKind.signed, IntKind.bits] at this; omega
    have hwt : IntKind.i64.wrap ((tn : Nat) : Int) = ((tn : Nat) : Int) := by rw [IntKind.wrap_i64]; omega
    have hnz : ((l.length : Nat) : Int) ≠ 0 := by omega
    have hpre : l.length ≤ 100000 := by omega
    obtain ⟨k, hk⟩ : ∃ k, k = tn % l.length := ⟨_, rfl⟩
    have hkl : k < l.length := by rw [hk]; exact Nat.mod_lt _ (by omega)
    have hrem : ((tn : Nat) : Int).tmod ((l.length : Nat) : Int) = ((k : Nat) : Int) := by rw [r_rem, hk]
    have hkle : k ≤ l.length := by omega
    have hk1 : k + 1 ≤ l.length := by omega
    have wk := wrapP (i := k) (by omega)
    obtain ⟨xk, hxk⟩ : ∃ x, l[k]? = some x := ⟨l[k]'hkl, by simp⟩
    have eD : List.drop (k + 1) (List.take l.length (l.map Cod.enc)) = (l.drop (k + 1)).map Cod.enc := by rw [List.take_of_length_le (by simp), List.map_drop]
    have eT : List.drop 0 (List.take k (l.map Cod.enc)) = (l.take k).map Cod.enc := by rw [List.drop_zero, List.map_take]
    have hmin : min k l.length = k := by omega
    have a1 : k * 120 ≤ 68719476736 := by omega
    have a2 : k ≤ 4294967296 := by omega
    have a3 : (k + (l.length - (k + 1))) * 120 ≤ 68719476736 := by omega
    have a4 : k + (l.length - (k + 1)) ≤ 4294967296 := by omega
    cases hkind : (xk.kind != 2) with
    | true =>
      simp +contextual only [go_sem, ↓reduceIte, Nat.reduceEqDiff, Nat.reduceAdd, Nat.reduceLeDiff, Nat.reduceLT, reduceCtorEq, c3, k3, hl, hs, hz, h7, htn, hwt, hnz, ne_eq, not_false_eq_true, hrem, hxk, hkind, Bool.not_true, List.length_map, List.getElem?_map, Option.map_some, Int.natCast_nonneg, Int.toNat_natCast]
    | false =>
      obtain ⟨M, hM⟩ : ∃ M, M = l.take k ++ l.drop (k + 1) := ⟨_, rfl⟩
      have hML : M.length = k + (l.length - (k + 1)) := by rw [hM]; simp; omega
      have eM : (l.take k).map Cod.enc ++ (l.drop (k + 1)).map Cod.enc = M.map Cod.enc := by rw [hM, List.map_append]
      have hT : (M.map Cod.enc).take (k + (l.length - (k + 1))) = M.map Cod.enc := List.take_of_length_le (by simp [hML])
      have hpM : M.length ≤ 100000 := by omega
      have hMlen : (k + (l.length - (k + 1)) ≤ M.length) := by omega
      have hsub : ∀ x, x ∈ M → x ∈ l := fun x hx => by
        rw [hM] at hx
        rcases List.mem_append.1 hx with g | g
        · exact List.mem_of_mem_take g
        · exact List.mem_of_mem_drop g
      have hlaw := upd_law (m := m) hsub
      have hrd := makeS_rds l m
      generalize hm0 : makeS l m = r0 at *
      generalize hm1 : makeS M m = r1 at *
      cases he0 : (r0.2 != 0) with
      | true =>
        simp +contextual only [go_sem, ↓reduceIte, Nat.reduceEqDiff, Nat.reduceAdd, Nat.reduceLeDiff, Nat.reduceLT, reduceCtorEq, c3, k3, hl, hs, hz, h7, h9, htn, hwt, hnz, ne_eq, not_false_eq_true, hrem, hxk, hkind, wk, hpre, hkle, hk1, eD, eT, eM, hT, hpM, hMlen, hm0, hm1, hmin, a1, a2, a3, a4, isF_evs, okE_evs, decL_enc Cod.dec_enc, Bool.not_true, List.nil_append, List.length_append, List.length_drop, List.length_take, List.length_map, List.length_nil, List.getElem?_map, Option.map_some, Option.map_none, Int.natCast_nonneg, Int.toNat_natCast, Nat.zero_add, Nat.zero_le, Nat.le_refl, List.drop_zero, he0, eq_self, true_and, and_true]
        rfl
      | false =>
      cases he1 : (r1.2 != 0) with
      | true =>
        simp +contextual only [go_sem, ↓reduceIte, Nat.reduceEqDiff, Nat.reduceAdd, Nat.reduceLeDiff, Nat.reduceLT, reduceCtorEq, c3, k3, hl, hs, hz, h7, h9, htn, hwt, hnz, ne_eq, not_false_eq_true, hrem, hxk, hkind, wk, hpre, hkle, hk1, eD, eT, eM, hT, hpM, hMlen, hm0, hm1, hmin, a1, a2, a3, a4, isF_evs, okE_evs, decL_enc Cod.dec_enc, Bool.not_true, List.nil_append, List.length_append, List.length_drop, List.length_take, List.length_map, List.length_nil, List.getElem?_map, Option.map_some, Option.map_none, Int.natCast_nonneg, Int.toNat_natCast, Nat.zero_add, Nat.zero_le, Nat.le_refl, List.drop_zero, he0, he1, eq_self, true_and, and_true]
        rfl
      | false =>
        obtain hlaw := hlaw (by simpa using he0) (by simpa using he1)
        simp +contextual only [go_sem, ↓reduceIte, Nat.reduceEqDiff, Nat.reduceAdd, Nat.reduceLeDiff, Nat.reduceLT, reduceCtorEq, c3, k3, hl, hs, hz, h7, h9, htn, hwt, hnz, ne_eq, not_false_eq_true, hrem, hxk, hkind, wk, hpre, hkle, hk1, eD, eT, eM, hT, hpM, hMlen, hm0, hm1, hmin, a1, a2, a3, a4, isF_evs, okE_evs, decL_enc Cod.dec_enc, Bool.not_true, List.nil_append, List.length_append, List.length_drop, List.length_take, List.length_map, List.length_nil, List.getElem?_map, Option.map_some, Option.map_none, Int.natCast_nonneg, Int.toNat_natCast, Nat.zero_add, Nat.zero_le, Nat.le_refl, List.drop_zero, he0, he1, eq_self, true_and, and_true]
        refine ⟨by rfl, ?_⟩
        refine TriI.loopA hg k3 (fun i : Nat => ⟨slotsL [(6, .sc (.bool false)), (8, .ref 0 0 0), (10, .ref 1 0 0), (12, .sc (.int .i64 (i : Nat)))], objsL [.live 11 [Cod.enc r0.1] true, .live 11 [Cod.enc r1.1] true], 2⟩)
          (fun i => 1 ≤ i ∧ i ≤ r0.1.rds.length + 1 ∧ ∀ j x y, j + 1 < i → r0.1.rds[j]? = some x → r0.1.rds[j + 1]? = some y → x.reg ≤ y.reg) (fun i => r0.1.rds.length + 1 - i) 1 (.ren [some 0, some 17] rfl rfl 1 ?_) ⟨Nat.le_refl _, by omega, fun j x y h => by omega⟩ ?_
        · simp +contextual only [go_sem, ↓reduceIte, Nat.reduceEqDiff, Nat.reduceAdd, Nat.reduceLeDiff, Nat.reduceLT, reduceCtorEq]
          rfl
        · rintro i ⟨h1, h2, h3⟩
          by_cases hil : i < r0.1.rds.length
          · have hd : decide (((i : Nat) : Int) < ((r0.1.rds.length : Nat) : Int)) = true := by simp; omega
            obtain ⟨y, hy⟩ : ∃ y, r0.1.rds[i]? = some y := ⟨r0.1.rds[i]'hil, by simp⟩
            obtain ⟨x, hx⟩ : ∃ x, r0.1.rds[i - 1]? = some x := ⟨r0.1.rds[i - 1]'(by omega), by simp⟩
            have wi := wrapP (i := i) (by omega)
            have wm := wrapM (i := i) (by omega) (by omega)
            simp +contextual only [go_sem, ↓reduceIte, Nat.reduceEqDiff, Nat.reduceAdd, Nat.reduceLeDiff, Nat.reduceLT, reduceCtorEq, k3, hd, hx, hy, wi, wm, List.length_map, List.getElem?_map, Option.map_some, Int.natCast_nonneg, Int.toNat_natCast]
            refine ⟨by rfl, fun hb => ⟨i + 1, by dsimp only; omega, ⟨by omega, by omega, fun j x' y' hj g1 g2 => ?_⟩, .back rfl ?_⟩⟩
            · rcases Nat.lt_or_ge (j + 1) i with h | h
              · exact h3 j x' y' h g1 g2
              · have hji : j = i - 1 := by omega
                subst hji
                rw [show i - 1 + 1 = i by omega] at g2
                rw [hx] at g1; rw [hy] at g2; cases g1; cases g2
                simp at hb; omega
            · simp +contextual only [go_sem, ↓reduceIte, Nat.reduceEqDiff, Nat.reduceAdd, Nat.reduceLeDiff, Nat.reduceLT, reduceCtorEq]
          · have hd : decide (((i : Nat) : Int) < ((r0.1.rds.length : Nat) : Int)) = false := by simp; omega
            obtain ⟨q1, q2, q3, q4, q5⟩ := hlaw (adj_pair fun j x y g1 g2 => h3 j x y (by have := (List.getElem?_eq_some_iff.1 g2).1; omega) g1 g2)
            have b1 : (r0.1.energy == r1.1.energy) = true := by rw [q1]; simp
            have b2 : (r0.1.start == r1.1.start) = true := by rw [q2]; simp
            have b3 : (r0.1.stop == r1.1.stop) = true := by rw [q3]; simp
            have b4 : (r0.1.reason == r1.1.reason) = true := by rw [q4]; simp
            have b5 : decide (r0.1.token = r1.1.token) = true := by rw [q5]; simp
            simp +contextual only [go_sem, ↓reduceIte, Nat.reduceEqDiff, Nat.reduceAdd, Nat.reduceLeDiff, Nat.reduceLT, reduceCtorEq, k3, hd, b1, b2, b3, b4, b5, h8, List.length_map]
end Go.Proofs.Ytoccifhckpjfaaa
