/- Records of all transactions: the law's walk. -/
import Derived.Test.YtoccifhckpjfaaaRec37t
import Derived.Test.YtoccifhckpjfaaaRec37e
namespace Go.Proofs.Ytoccifhckpjfaaa
set_option linter.all false
open Go.Idl
set_option linter.all false
set_option maxHeartbeats 16000000
set_option maxRecDepth 100000
attribute [local go_sem] agRec agEv37 Try.underlying3 Try.underlying5 Try.underlying9 Try.underlying4 Try.underlying30 Try.underlying22 Try.underlying25
theorem coll_nil37 : Coll [] := ⟨by simp, .nil, by simp⟩
def keepE (c : List EvD) (x : EvD) : List EvD := bif (putR c x).2 == 0 then (putR c x).1 else c
theorem keepE_coll {c : List EvD} (h : Coll c) (x : EvD) : Coll (keepE c x) := by
  unfold keepE
  cases (putR c x).2 == 0
  · exact h
  · exact putR_coll h x
theorem allL_rds (m : Int) : ∀ (n : Nat) (l : List EvD), l.length ≤ n → ∀ r, r ∈ allL l m → r.rds.length ≤ 1024
  | _, [], _, r, h => by rw [allL] at h; cases h
  | 0, x :: l, hn, _, _ => by simp at hn
  | n + 1, x :: l, hn, r, h => by
    rw [allL_cons] at h
    rcases List.mem_append.1 h with h | h
    · have hr := makeS_rds (x :: l.takeWhile (one x)) m
      unfold okR at h
      cases he : ((makeS (x :: l.takeWhile (one x)) m).2 == 0) with
      | true => rw [he, cond_true, List.mem_singleton] at h; subst h; exact hr
      | false => rw [he] at h; cases h
    · refine allL_rds m n _ ?_ r h
      have := (List.dropWhile_sublist (one x) (l := l)).length_le
      simp at hn; omega
theorem allL_len (m : Int) : ∀ (n : Nat) (l : List EvD), l.length ≤ n → (allL l m).length ≤ l.length
  | _, [], _ => by rw [allL]; exact Nat.le_refl _
  | 0, x :: l, hn => by simp at hn
  | n + 1, x :: l, hn => by
    rw [allL_cons, List.length_append]
    have h1 := (List.dropWhile_sublist (one x) (l := l)).length_le
    have := okR_len (makeS (x :: l.takeWhile (one x)) m)
    have h2 := allL_len m n (l.dropWhile (one x)) (by simp at hn; omega)
    simp; omega
abbrev SRecAll : List V → Option V := FT fun (t : List EvD × Int × Unit) => if t.1.length ≤ 9223372036854775807 then some true else none
theorem con6 {Φ : Specs} (hg : Idl.Good Try.prog Φ) (h7 : Φ 7 = some SSmall) (h8 : Φ 8 = some (FT fun (_ : Unit) => some true))
    (h12 : Φ 12 = some SPutR) (h13 : Φ 13 = some SAll) (h14 : Φ 14 = some SAllR) (h15 : Φ 15 = some SEqRec) : Contract Try.prog 6 SRecAll := by
  refine conT hg k6 ic6 (by decide) fun C t r h => ?_
  obtain ⟨l, m, u⟩ := t
  dsimp only at h
  by_cases hl : l.length ≤ 9223372036854775807
  case neg => rw [if_neg hl] at h; cases h
  rw [if_pos hl] at h
  cases h
  cases hs : smallS l with
  | false => simp +contextual only [go_sem, ↓reduceIte, Nat.reduceEqDiff, Nat.reduceAdd, Nat.reduceLeDiff, Nat.reduceLT, reduceCtorEq, c6, k6, hl, hs, h7, h8]
  | true =>
    have hll := small_len hs
    simp +contextual only [go_sem, ↓reduceIte, Nat.reduceEqDiff, Nat.reduceAdd, Nat.reduceLeDiff, Nat.reduceLT, reduceCtorEq, c6, k6, hl, hs, h7, Bool.not_true, List.length_map]
    refine TriI.loopL hg k6 l (fun i (a : V × List EvD) => ⟨slotsL [(0, Cod.enc l), (1, .sc (.int .i64 m)), (4, .sc (.bool false)), (5, a.1), (17, Cod.enc l), (18, .sc (.int .i64 l.length)), (19, .sc (.int .i64 i))], objsL [], 0⟩)
      (fun xs a => ((a.1 = .sc (.slice none 0 0) ∧ a.2 = []) ∨ a.1 = Cod.enc a.2) ∧ Coll a.2) (.sc (.slice none 0 0), []) (.back rfl ?_) ⟨.inl ⟨rfl, rfl⟩, coll_nil37⟩ ?_ ?_
    · simp +contextual only [go_sem, ↓reduceIte, Nat.reduceEqDiff, Nat.reduceAdd, Nat.reduceLeDiff, Nat.reduceLT, reduceCtorEq, List.length_map]
      rfl
    · rintro ⟨v, c⟩ ⟨hv, hC⟩
      dsimp only at hv hC ⊢
      have hok := allOk_of hC
      have hcl : c.length ≤ 100000 := by have := hC.len; omega
      have hall := (all_law hC m).symm
      have hrd := allL_rds m _ c (Nat.le_refl _)
      have hRl := allL_len m _ c (Nat.le_refl _)
      generalize hR : allL c m = R at *
      have key : ∀ v, (v = .sc (.slice none 0 0) ∧ c = [] ∨ v = Cod.enc c) → True := fun _ _ => trivial
      rcases hv with ⟨rfl, rfl⟩ | rfl
      all_goals
        simp +contextual only [go_sem, ↓reduceIte, Nat.reduceEqDiff, Nat.reduceAdd, Nat.reduceLeDiff, Nat.reduceLT, reduceCtorEq, k6, Int.lt_irrefl, decide_false, hok, hcl, hall, hR, h13, h14, List.length_map, bne_self_eq_false]
        refine TriI.loopL hg k6 R (fun i (_ : Unit) => ⟨slotsL [(4, .sc (.bool false)), (10, Cod.enc R), (11, Cod.enc R), (45, .sc (.int .i64 R.length)), (46, .sc (.int .i64 i))], objsL [], 0⟩)
          (fun xs _ => ∀ r, r ∈ xs → r ∈ R) () (.back rfl ?_) (fun r h => h) ?_ ?_
        · simp +contextual only [go_sem, ↓reduceIte, Nat.reduceEqDiff, Nat.reduceAdd, Nat.reduceLeDiff, Nat.reduceLT, reduceCtorEq, List.length_map]
          rfl
        · rintro _ _
          simp +contextual only [go_sem, ↓reduceIte, Nat.reduceEqDiff, Nat.reduceAdd, Nat.reduceLeDiff, Nat.reduceLT, reduceCtorEq, k6, Int.lt_irrefl, decide_false]
        · rintro i _ x xs hd hlt hx hin
          have hw := wrap_nat hlt (by omega)
          have hxr : x.rds.length ≤ 1000000 := by have := hrd x (hin x (by simp)); omega
          have hxx : eqRecB x x = true := eqRecB_iff.2 rfl
          simp +contextual only [go_sem, ↓reduceIte, Nat.reduceEqDiff, Nat.reduceAdd, Nat.reduceLeDiff, Nat.reduceLT, reduceCtorEq, k6, lt_dec hlt, hx, hw, hxr, hxx, h15, List.length_map, List.getElem?_map, Option.map_some, Int.natCast_nonneg, Int.toNat_natCast, and_self]
          exact ⟨by rfl, (), fun r h => hin r (List.mem_cons_of_mem _ h), .back rfl (by simp +contextual only [go_sem, ↓reduceIte, Nat.reduceEqDiff, Nat.reduceAdd, Nat.reduceLeDiff, Nat.reduceLT, reduceCtorEq])⟩
    · rintro i ⟨v, c⟩ x xs hd hlt hx ⟨hv, hC⟩
      have hw := wrap_nat hlt (by omega)
      dsimp only at hv hC ⊢
      have hcol := colS_ok.2 hC
      have hK := keepE_coll hC x
      unfold keepE at hK
      generalize hres : putR c x = res at *
      cases he : (res.2 == 0) <;> rw [he] at hK
      · rcases hv with ⟨rfl, rfl⟩ | rfl
        · simp +contextual only [go_sem, ↓reduceIte, Nat.reduceEqDiff, Nat.reduceAdd, Nat.reduceLeDiff, Nat.reduceLT, reduceCtorEq, k6, lt_dec hlt, hx, hw, he, hcol, hres, h12, List.length_map, List.getElem?_map, Option.map_some, Int.natCast_nonneg, Int.toNat_natCast]
          exact ⟨(.sc (.slice none 0 0), []), ⟨.inl ⟨rfl, rfl⟩, hK⟩, .back rfl (by simp +contextual only [go_sem, ↓reduceIte, Nat.reduceEqDiff, Nat.reduceAdd, Nat.reduceLeDiff, Nat.reduceLT, reduceCtorEq])⟩
        · simp +contextual only [go_sem, ↓reduceIte, Nat.reduceEqDiff, Nat.reduceAdd, Nat.reduceLeDiff, Nat.reduceLT, reduceCtorEq, k6, lt_dec hlt, hx, hw, he, hcol, hres, h12, List.length_map, List.getElem?_map, Option.map_some, Int.natCast_nonneg, Int.toNat_natCast]
          exact ⟨(Cod.enc c, c), ⟨.inr rfl, hK⟩, .back rfl (by simp +contextual only [go_sem, ↓reduceIte, Nat.reduceEqDiff, Nat.reduceAdd, Nat.reduceLeDiff, Nat.reduceLT, reduceCtorEq])⟩
      · rcases hv with ⟨rfl, rfl⟩ | rfl
        all_goals
          simp +contextual only [go_sem, ↓reduceIte, Nat.reduceEqDiff, Nat.reduceAdd, Nat.reduceLeDiff, Nat.reduceLT, reduceCtorEq, k6, lt_dec hlt, hx, hw, he, hcol, hres, h12, List.length_map, List.getElem?_map, Option.map_some, Int.natCast_nonneg, Int.toNat_natCast]
          exact ⟨(Cod.enc res.1, res.1), ⟨.inr rfl, hK⟩, .back rfl (by simp +contextual only [go_sem, ↓reduceIte, Nat.reduceEqDiff, Nat.reduceAdd, Nat.reduceLeDiff, Nat.reduceLT, reduceCtorEq])⟩
end Go.Proofs.Ytoccifhckpjfaaa
