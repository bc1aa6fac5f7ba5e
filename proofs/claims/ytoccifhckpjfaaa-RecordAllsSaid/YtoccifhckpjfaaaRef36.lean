/- The reference's collections: putting, comparing. -/
import Derived.Test.YtoccifhckpjfaaaOf36
namespace Go.Proofs.Ytoccifhckpjfaaa
set_option linter.all false
open Go.Idl
set_option maxHeartbeats 4000000
set_option maxRecDepth 100000
attribute [local go_sem] Try.underlying3 Try.underlying79 Try.underlying9 Try.underlying4
def rdsOk (l : List EvD) : Bool := decide (l.length ≤ 1000000) && l.all fun x => decide (x.rds.length ≤ 1000000)
theorem rdsOk_at {l : List EvD} (h : rdsOk l = true) {i : Nat} {x : EvD} (hx : l[i]? = some x) : x.rds.length ≤ 1000000 := by
  simp only [rdsOk, Bool.and_eq_true, List.all_eq_true, decide_eq_true_eq] at h
  exact h.2 x (List.mem_of_getElem? hx)
def hitR (e x : EvD) : Bool := one x e && (x.seq == e.seq)
def atR (l : List EvD) (e : EvD) : Nat := (l.takeWhile fun x => bef x e).length
def putR (l : List EvD) (e : EvD) : List EvD × Int :=
  bif evS e != 0 then (l, evS e) else match l.find? (hitR e) with
  | some x => bif sameE x e then (l, 9) else (l, 23)
  | none => bif l.any (fun x => one x e && contra x e) then (l, 1) else bif decide (l.length ≥ 4096) then (l, 3)
    else (l.take (atR l e) ++ [e] ++ l.drop (atR l e), 0)
theorem okE_evs (l : List EvD) : (l.map Cod.enc).all (okE 10) = true := by
  simp only [List.all_map, List.all_eq_true]
  intro x _
  rfl
theorem encs_mid (a b : List EvD) (e : EvD) : List.map Cod.enc a ++ [V.agg [.sc (.string e.station), .sc (.string e.txn), .sc (.int .i64 e.conn), .sc (.int .i64 e.seq), .sc (.int .i64 e.kind), .sc (.int .i64 e.time), .sc (.string e.token), .sc (.bool e.offline), .sc (.int .i64 e.reason), .slice 2 (e.rds.map Cod.enc)]] ++ List.map Cod.enc b = (a ++ [e] ++ b).map Cod.enc := by
  rw [List.map_append, List.map_append]; rfl
abbrev SPutR : List V → Option V := FT fun (t : List EvD × EvD × Unit) => if colS t.1 = 0 then some (putR t.1 t.2.1) else none
theorem tw_all {α : Type} {p : α → Bool} : ∀ {l : List α}, (∀ x ∈ l, p x = true) → l.takeWhile p = l
  | [], _ => rfl
  | x :: l, h => by rw [List.takeWhile_cons_of_pos (h x (by simp)), tw_all fun y hy => h y (by simp [hy])]
theorem atR_le (l : List EvD) (e : EvD) : atR l e ≤ l.length := (takeW _ l).1
theorem atR_step {l a xs : List EvD} {x e : EvD} (hC : Coll l) (hl : l = a ++ (x :: xs)) : atR (a ++ [x]) e = if bef x e = true then a.length + 1 else atR a e := by
  have hp := hC.ord
  rw [hl, List.pairwise_append] at hp
  have hax : ∀ y ∈ a, bef y x = true := fun y hy => (hp.2.2 y hy x (by simp)).1
  unfold atR
  rw [List.takeWhile_append]
  split
  · rename_i h
    by_cases hb : bef x e = true
    · rw [if_pos hb, List.takeWhile_cons_of_pos (p := fun x => bef x e) hb]; simp
    · rw [if_neg hb, List.takeWhile_cons_of_neg (p := fun x => bef x e) hb]; simp [h]
  · rename_i h
    by_cases hb : bef x e = true
    · exfalso
      apply h
      have : a.takeWhile (fun x => bef x e) = a := by
        rw [tw_all]
        intro y hy
        exact bef_trans (hax y hy) hb
      rw [this]
    · rw [if_neg hb]
theorem con12 {Φ : Specs} (hg : Idl.Good Try.prog Φ) (h10 : Φ 10 = some SEv) (h25 : Φ 25 = some SOne) (h26 : Φ 26 = some SSame) (h28 : Φ 28 = some SBef) (h27 : Φ 27 = some SContraR) :
    Contract Try.prog 12 SPutR := by
  refine conT hg k12 ic12 (by decide) fun C t r h => ?_
  obtain ⟨l, e, u⟩ := t
  dsimp only at h
  split at h
  · rename_i hl
    have hC := colS_ok.1 hl
    have hlen := hC.len
    cases h
    simp +contextual only [go_sem, ↓reduceIte, Nat.reduceEqDiff, Nat.reduceAdd, Nat.reduceLeDiff, Nat.reduceLT, reduceCtorEq, c12, k12, h10, List.length_map]
    refine ⟨fun h => by simp only [putR, h, cond_true], fun h => ?_⟩
    refine TriI.loopL hg k12 l (fun i (a : List EvD) => ⟨slotsL [(0, Cod.enc l), (3, .ref 0 0 0), (7, .sc (.int .i64 (atR a e : Nat))), (8, .sc (.bool (a.any fun x => one x e && contra x e))), (9, .sc (.int .i64 i))], objsL [.live 10 [Cod.enc e] true], 1⟩)
      (fun xs a => l = a ++ xs ∧ a.find? (hitR e) = none) [] (.back rfl ?_) ⟨rfl, rfl⟩ ?_ ?_
    · simp +contextual only [go_sem, ↓reduceIte, Nat.reduceEqDiff, Nat.reduceAdd, Nat.reduceLeDiff, Nat.reduceLT, reduceCtorEq, List.length_map]
      exact ⟨rfl, rfl, rfl⟩
    · rintro a ⟨i1, i2⟩
      rw [List.append_nil] at i1
      subst i1
      have hP : putR l e = bif l.any (fun x => one x e && contra x e) then (l, 1) else bif decide (l.length ≥ 4096) then (l, 3)
        else (l.take (atR l e) ++ [e] ++ l.drop (atR l e), 0) := by simp only [putR, h, cond_false, i2]
      have hat := atR_le l e
      have htk : (List.map Cod.enc l).take (atR l e) = (l.take (atR l e)).map Cod.enc := by rw [List.map_take]
      have hdr : ((List.map Cod.enc l).take l.length).drop (atR l e) = (l.drop (atR l e)).map Cod.enc := by rw [List.take_of_length_le (by simp), List.map_drop]
      have hmin : min (atR l e) l.length = atR l e := by omega
      have b1 : atR l e * 120 ≤ 68719476736 := by omega
      have b2 : atR l e ≤ 4294967296 := by omega
      have b3 : (atR l e + 1) * 120 ≤ 68719476736 := by omega
      have b4 : atR l e + 1 ≤ 4294967296 := by omega
      have b5 : (atR l e + (1 + (l.length - atR l e))) * 120 ≤ 68719476736 := by omega
      have b6 : atR l e + (1 + (l.length - atR l e)) ≤ 4294967296 := by omega
      simp +contextual only [go_sem, ↓reduceIte, Nat.reduceEqDiff, Nat.reduceAdd, Nat.reduceLeDiff, Nat.reduceLT, reduceCtorEq, k12, Int.lt_irrefl, decide_false, List.length_map, List.length_take, List.length_drop, hmin, htk, hdr, b1, b2, b3, b4, b5, b6, Int.natCast_nonneg, Int.toNat_natCast, hat, Option.map_some, Option.map_none, Nat.zero_le, List.drop_zero, true_and, and_true, or_true, true_or, okE_evs, okE, decide_true, Bool.and_true, List.all_append, Bool.and_self, List.length_append, List.length_cons, List.length_nil, Nat.zero_add, List.take_length, Nat.le_refl, Nat.add_assoc]
      refine ⟨fun h1 => by rw [hP, h1]; rfl, fun h1 => ⟨fun h2 => ?_, fun h2 => ?_⟩⟩
      · have : decide (l.length ≥ 4096) = true := by simp at h2 ⊢; omega
        rw [hP, h1, this]; rfl
      · have h3 : decide (l.length ≥ 4096) = false := by simp at h2 ⊢; omega
        rw [h1, h3] at hP
        simp only [cond_false] at hP
        simp only [encs_mid]
        have hlf : (List.map Cod.enc (l.take (atR l e) ++ [e] ++ l.drop (atR l e))).length = atR l e + (1 + (l.length - atR l e)) := by simp; omega
        have htl : List.take (atR l e + (1 + (l.length - atR l e))) (List.map Cod.enc (l.take (atR l e) ++ [e] ++ l.drop (atR l e))) = List.map Cod.enc (l.take (atR l e) ++ [e] ++ l.drop (atR l e)) := List.take_of_length_le (by omega)
        simp +contextual only [go_sem, ↓reduceIte, Nat.reduceEqDiff, Nat.reduceAdd, Nat.reduceLeDiff, Nat.reduceLT, reduceCtorEq, isF_evs, hlf, htl, Nat.zero_add, Nat.le_refl, true_and, and_true, List.drop_zero, hP]
    · rintro i a x xs hd hlt hx ⟨i1, i2⟩
      have hw := wrap_nat hlt (by omega)
      have hi := drop_pre hd i1
      have hrd : x.rds.length ≤ 1000000 := by have := ev_rds (hC.ok x (List.mem_of_getElem? hx)); omega
      have hany : ((a ++ [x]).any fun x => one x e && contra x e) = ((a.any fun x => one x e && contra x e) || (one x e && contra x e)) := by simp
      have hat := atR_step hC i1 (e := e)
      rw [← hi] at hat
      cases ho : one x e with
      | true =>
        cases hq : (x.seq == e.seq) with
        | true =>
          have hf : l.find? (hitR e) = some x := by
            rw [i1, List.find?_append, i2]
            simp only [Option.none_or]
            rw [List.find?_cons_of_pos (by simp only [hitR, ho, hq, Bool.and_true])]
          have hP : putR l e = bif sameE x e then (l, 9) else (l, 23) := by simp only [putR, h, cond_false, hf]
          simp +contextual only [go_sem, ↓reduceIte, Nat.reduceEqDiff, Nat.reduceAdd, Nat.reduceLeDiff, Nat.reduceLT, reduceCtorEq, k12, hrd, lt_dec hlt, hx, hw, ho, hq, List.length_map, List.getElem?_map, Option.map_some, Int.natCast_nonneg, Int.toNat_natCast, h25, h26, h28, h27]
          exact ⟨rfl, rfl, fun h1 => by rw [hP, h1]; rfl, fun h1 => by rw [hP, h1]; rfl⟩
        | false =>
          have hn : (a ++ [x]).find? (hitR e) = none := by
            rw [List.find?_append, i2]
            simp only [Option.none_or]
            rw [List.find?_cons_of_neg (by simp [hitR, hq])]; rfl
          cases hb : bef x e <;> rw [hb] at hat <;> rw [ho] at hany
          all_goals simp +contextual only [go_sem, ↓reduceIte, Nat.reduceEqDiff, Nat.reduceAdd, Nat.reduceLeDiff, Nat.reduceLT, reduceCtorEq, k12, hrd, lt_dec hlt, hx, hw, ho, hq, hb, List.length_map, List.getElem?_map, Option.map_some, Int.natCast_nonneg, Int.toNat_natCast, h25, h26, h28, h27]
          all_goals (repeat' (first | apply And.intro | intro _))
          all_goals first
            | rfl
            | refine ⟨a ++ [x], ⟨by rw [i1]; simp, hn⟩, .back rfl ?_⟩
          all_goals simp +contextual only [go_sem, ↓reduceIte, Nat.reduceEqDiff, Nat.reduceAdd, Nat.reduceLeDiff, Nat.reduceLT, reduceCtorEq, hany, hat, Bool.true_and, Bool.or_true, Bool.false_or, Bool.true_or, Bool.false_and, Bool.or_false, *]
      | false => 
          have hn : (a ++ [x]).find? (hitR e) = none := by
            rw [List.find?_append, i2]
            simp only [Option.none_or]
            rw [List.find?_cons_of_neg (by simp [hitR, ho])]; rfl
          cases hb : bef x e <;> rw [hb] at hat <;> rw [ho] at hany
          all_goals simp +contextual only [go_sem, ↓reduceIte, Nat.reduceEqDiff, Nat.reduceAdd, Nat.reduceLeDiff, Nat.reduceLT, reduceCtorEq, k12, hrd, lt_dec hlt, hx, hw, ho, hb, List.length_map, List.getElem?_map, Option.map_some, Int.natCast_nonneg, Int.toNat_natCast, h25, h26, h28, h27]
          all_goals (repeat' (first | apply And.intro | intro _))
          all_goals first
            | rfl
            | refine ⟨a ++ [x], ⟨by rw [i1]; simp, hn⟩, .back rfl ?_⟩
          all_goals simp +contextual only [go_sem, ↓reduceIte, Nat.reduceEqDiff, Nat.reduceAdd, Nat.reduceLeDiff, Nat.reduceLT, reduceCtorEq, hany, hat, Bool.true_and, Bool.or_true, Bool.false_or, Bool.true_or, Bool.false_and, Bool.or_false, *]
  · cases h
end Go.Proofs.Ytoccifhckpjfaaa
