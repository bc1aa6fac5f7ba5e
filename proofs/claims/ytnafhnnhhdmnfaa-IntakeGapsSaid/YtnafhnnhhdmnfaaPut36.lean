/- Events by their keys; copies; putting an event into a collection. -/
import Derived.Test.YtnafhnnhhdmnfaaBounds
namespace Go.Proofs.Ytnafhnnhhdmnfaa
set_option linter.all false
open Go.Idl
set_option maxHeartbeats 4000000
set_option maxRecDepth 100000
attribute [local go_sem] Try.underlying3 Try.underlying75 Try.underlying9 agKey

theorem putF_ev (id : Nat) (m : List (KeyD × EvD)) (k : KeyD) (e : EvD) :
    putF' id (.agg #[.string k.station, .string k.txn, .int .i64 k.seq]) (.agg [.sc (.string e.station), .sc (.string e.txn), .sc (.int .i64 e.conn), .sc (.int .i64 e.seq), .sc (.int .i64 e.kind), .sc (.int .i64 e.time), .sc (.string e.token), .sc (.bool e.offline), .sc (.int .i64 e.reason), .slice 2 (e.rds.map Cod.enc)]) (keysM m) (valsM m) (some (fidx m k)) =
      some (.any, [(id, .ext (.map (keysM (putM m k e)) (valsM (putM m k e))))]) := putF_typed id _ _ m k _ rfl rfl
def idxE (l : List EvD) : List (KeyD × EvD) := l.foldl (fun m e => putM m (keyE e) e) []
abbrev SIndex : List V → Option V := FT fun (t : List EvD × Unit) => if t.1.length ≤ 1000000 then some (⟨some (idxE t.1)⟩ : KM KeyD EvD) else none
theorem isF_vals (m : List (KeyD × EvD)) : (valsM m).all V.isF = true := by
  simp only [valsM, List.all_map, List.all_eq_true]
  intro x _
  rfl
theorem low_vals (n : Nat) (m : List (KeyD × EvD)) : (valsM m).all (V.low n) = true := by
  simp only [valsM, List.all_map, List.all_eq_true]
  intro x _
  rfl
theorem con35 {Φ : Specs} (hg : Idl.Good Try.prog Φ) (h28 : Φ 28 = some SKey) : Contract Try.prog 35 SIndex := by
  refine conT hg k35 ic35 (by decide) fun C t r h => ?_
  obtain ⟨l, u⟩ := t
  dsimp only at h
  split at h
  · rename_i hl
    cases h
    simp +contextual only [go_sem, ↓reduceIte, Nat.reduceEqDiff, Nat.reduceAdd, Nat.reduceLeDiff, Nat.reduceLT, reduceCtorEq, c35, k35, List.length_map]
    refine TriI.loopL hg k35 l (fun i (m : List (KeyD × EvD)) => ⟨slotsL [(3, .mapr 0), (9, Cod.enc l), (10, .sc (.int .i64 l.length)), (11, .sc (.int .i64 i))], objsL [.ext (.map (keysM m) (valsM m))], 1⟩)
      (fun xs m => xs.foldl (fun m e => putM m (keyE e) e) m = idxE l) [] (.back rfl ?_) rfl ?_ ?_
    · simp +contextual only [go_sem, ↓reduceIte, Nat.reduceEqDiff, Nat.reduceAdd, Nat.reduceLeDiff, Nat.reduceLT, reduceCtorEq]
      exact ⟨rfl, rfl, rfl⟩
    · intro m hinv
      simp +contextual only [go_sem, ↓reduceIte, Nat.reduceEqDiff, Nat.reduceAdd, Nat.reduceLeDiff, Nat.reduceLT, reduceCtorEq, k35, Int.lt_irrefl, decide_false, isF_vals]
      have : m = idxE l := hinv
      rw [this]
    · intro i m x xs hd hlt hx hinv
      have hw := wrap_nat hlt (by omega)
      simp +contextual only [go_sem, ↓reduceIte, Nat.reduceEqDiff, Nat.reduceAdd, Nat.reduceLeDiff, Nat.reduceLT, reduceCtorEq, k35, lt_dec hlt, hx, hw, h28, List.getElem?_map, Option.map_some, Int.natCast_nonneg, Int.toNat_natCast, putF_ev]
      refine ⟨rfl, putM m (keyE x) x, hinv, .back rfl ?_⟩
      simp +contextual only [go_sem, ↓reduceIte, Nat.reduceEqDiff, Nat.reduceAdd, Nat.reduceLeDiff, Nat.reduceLT, reduceCtorEq, low_vals]
  · cases h

/-! ### Copies -/
theorem low_evs (n : Nat) (l : List EvD) : (l.map Cod.enc).all (V.low n) = true := by
  simp only [List.all_map, List.all_eq_true]
  intro x _
  rfl
theorem low_rds (n : Nat) (l : List Rdg) : (l.map Cod.enc).all (V.low n) = true := by
  simp only [List.all_map, List.all_eq_true]
  intro x _
  rfl
theorem isF_evs (l : List EvD) : (l.map Cod.enc).all V.isF = true := by
  simp only [List.all_map, List.all_eq_true]
  intro x _
  rfl
theorem isF_rds (l : List Rdg) : (l.map Cod.enc).all V.isF = true := by
  simp only [List.all_map, List.all_eq_true]
  intro x _
  rfl
theorem okE_rds (l : List Rdg) : (l.map Cod.enc).all (okE 2) = true := by
  simp only [List.all_map, List.all_eq_true]
  intro x _
  rfl
theorem updH_ge {H : Heap} {n k id : Nat} {x : Idl.Obj} (h : id < n) (hk : n ≤ k) : updH H k x id = H id := by unfold updH; rw [if_neg (by omega)]
theorem updH_nk {H : Heap} {n k id : Nat} {x : Idl.Obj} (h : id < n) : updH H (n + k) x id = H id := updH_ge h (by omega)
theorem updH_n0 {H : Heap} {n id : Nat} {x : Idl.Obj} (h : id < n) : updH H n x id = H id := updH_ge h (Nat.le_refl n)
def nRds (l : List EvD) : Nat := (l.map fun e => e.rds.length).sum
/-- A copy behind what is there already. -/
theorem ct37 {Φ : Specs} (hg : Idl.Good Try.prog Φ) {C : Ctx} {H0 : Heap} {r n : Nat} {es l : List EvD} {τ : Nat → V} {K : V → SF → Prop} (hr : r < n) (hH : H0 r = .live 10 (es.map Cod.enc) true) (hH0 : ∀ id, id < n → (H0 id).low n = true) (hun : ∀ k, H0 (n + k) = .unborn)
    (hlen : es.length + l.length ≤ 100000) (hrd : nRds l ≤ 1000000) (hne : ∀ x ∈ l, x.rds ≠ []) (hlow : LowC C n) (hτ : LowT n τ)
    (hk : ∀ τ' (rd : List Rdg) mu, K (.own n 0 (es.length + l.length)) ⟨τ', extH (updH H0 r .dead) n [.live 10 ((es ++ l).map Cod.enc) true, .live 2 (rd.map Cod.enc) mu], n + 2⟩) :
    CallT Try.prog C 37 [.own r 0 es.length, Cod.enc l] ⟨τ, H0, n⟩ K := by
  refine CallT.of_walk hg k37 ic37 (by simp) fun C' hlow' => ?_
  have hl2 : LowC C' n := hlow' n hτ hlow
  have rn : ∀ k, (r = n + k) = False := fun k => by simp; omega
  have rn0 : (r = n) = False := by simp; omega
  have rF : ∀ ids, renF n ids r = some (some r) := fun ids => renF_lt hr
  have hbase : ∀ id, id < n → updH H0 r .dead id = .dead ∨ (updH H0 r .dead id = H0 id ∧ (H0 id).low n = true) := fun id hid => by
    by_cases e : id = r
    · left; simp [updH, e]
    · right; exact ⟨by simp [updH, e], hH0 id hid⟩
  have hE : ∀ O, extH H0 n O r = .live 10 (es.map Cod.enc) true := fun O => by rw [extH_lt hr, hH]
  simp +contextual only [go_sem, ↓reduceIte, Nat.reduceEqDiff, Nat.reduceAdd, Nat.reduceLeDiff, Nat.reduceLT, reduceCtorEq, c37, k37, List.length_map]
  refine TriI.loopL hg k37 l (fun i (a : Nat) => ⟨slotsL [(0, .own r 0 es.length), (1, Cod.enc l), (5, .sc (.int .i64 (a : Int))), (12, Cod.enc l), (13, .sc (.int .i64 l.length)), (14, .sc (.int .i64 i))], extH H0 n [], n⟩)
    (fun xs a => a + nRds xs = nRds l) 0 (.renX [] rfl rfl (fun id hid => .inr ⟨rfl, hH0 id hid⟩) (by simp) ?_ hl2) (by simp) ?_ ?_
  · simp +contextual only [go_sem, ↓reduceIte, Nat.reduceEqDiff, Nat.reduceAdd, Nat.reduceLeDiff, Nat.reduceLT, reduceCtorEq, rF]
    rfl
  · intro a hinv
    have ha : a = nRds l := by simpa [nRds] using hinv
    subst ha
    have c1 : ((nRds l : Nat) : Int) ≤ 4294967296 := by omega
    have c2 : 16 * nRds l ≤ 281474976710656 := by omega
    simp +contextual only [go_sem, ↓reduceIte, Nat.reduceEqDiff, Nat.reduceAdd, Nat.reduceLeDiff, Nat.reduceLT, reduceCtorEq, k37, Int.lt_irrefl, decide_false, List.length_map, Int.natCast_nonneg, Int.toNat_natCast, c1, c2, Int.le_refl, true_and, and_true, List.replicate_zero, Int.toNat_zero]
    refine TriI.loopL hg k37 l (fun i (a : List EvD × List Rdg × Bool) => ⟨slotsL [(0, .own n 0 (es.length + i)), (8, .own (n + 1) 0 a.2.1.length), (26, Cod.enc l), (27, .sc (.int .i64 l.length)), (28, .sc (.int .i64 i))], extH (updH H0 r .dead) n [.live 10 ((es ++ a.1).map Cod.enc) true, .live 2 (a.2.1.map Cod.enc) a.2.2], n + 2⟩)
      (fun xs a => l = a.1 ++ xs ∧ a.2.1.length + nRds xs = nRds l) ([], [], true) (.renX [some r, some n] (by simp [maskI, idsB]; omega) rfl ?_ ?_ ?_ hl2) ⟨rfl, by simp⟩ ?_ ?_
    · intro id hid
      rw [updH_ge hid (Nat.le_refl n), extH_lt hid]
      exact hbase id hid
    · intro i k hi hk
      match i with
      | 0 => simp at hi; subst hi; exact .inl (by simp [updH])
      | 1 => simp at hi; omega
      | i + 2 => simp at hi
    · simp +contextual only [go_sem, ↓reduceIte, Nat.reduceEqDiff, Nat.reduceAdd, Nat.reduceLeDiff, Nat.reduceLT, reduceCtorEq, low_evs, rF, rn0, hE, List.append_nil, List.map_nil, List.length_nil, Nat.add_zero]
      rfl
    · rintro ⟨a, rd, mu⟩ hinv
      have e : l = a := by simpa using hinv.1
      subst e
      simp +contextual only [go_sem, ↓reduceIte, Nat.reduceEqDiff, Nat.reduceAdd, Nat.reduceLeDiff, Nat.reduceLT, reduceCtorEq, k37, Int.lt_irrefl, decide_false, List.length_map]
      exact hk _ _ _
    · rintro i ⟨a, rd, mu⟩ x xs hd hlt hx hinv
      have hw := wrap_nat hlt (by omega)
      obtain ⟨i1, i2⟩ := hinv
      dsimp only at i1 i2
      have hil := drop_pre hd i1
      have hx2 : rd.length + x.rds.length + nRds xs = nRds l := by rw [← i2]; simp [nRds]; omega
      have hla : (es ++ a).length = es.length + i := by simp [hil]
      have f1 : (rd.length + x.rds.length) * 16 ≤ 68719476736 := by omega
      have f2 : rd.length + x.rds.length ≤ 4294967296 := by omega
      have f3 : (rd.length = rd.length + x.rds.length) = False := by
        have : 0 < x.rds.length := List.length_pos_iff.2 (hne x (by rw [i1]; simp))
        exact eq_false (by omega)
      have f4 : rd.length ≤ rd.length + x.rds.length := by omega
      have f5 : (((rd.map Cod.enc) ++ (x.rds.map Cod.enc)).drop rd.length).take (rd.length + x.rds.length - rd.length) = x.rds.map Cod.enc := by
        rw [List.drop_left' (by simp), List.take_of_length_le (by simp)]
      have f6 : (rd.map Cod.enc ++ x.rds.map Cod.enc).all V.isF = true := by rw [← List.map_append]; exact isF_rds _
      have f7 : (es.length + (i + 1)) * 120 ≤ 68719476736 := by omega
      have f8 : es.length + (i + 1) ≤ 4294967296 := by omega
      have hlx : (es ++ (a ++ [x])).map Cod.enc = (es ++ a).map Cod.enc ++ [Cod.enc x] := by simp
      have hlr : (rd ++ x.rds).map Cod.enc = rd.map Cod.enc ++ x.rds.map Cod.enc := by simp
      have hbase2 : ∀ id, id < n → updH H0 r .dead id = .dead ∨ (True ∧ (updH H0 r .dead id).low n = true) := fun id hid => by
        rcases hbase id hid with e | ⟨e1, e2⟩
        · exact .inl e
        · exact .inr ⟨trivial, by rw [e1]; exact e2⟩
      have low2 : ((es ++ a).map Cod.enc ++ [Cod.enc x]).all (V.low n) = true := by rw [← hlx]; exact low_evs _ _
      have low3 : (rd.map Cod.enc ++ x.rds.map Cod.enc).all (V.low n) = true := by rw [← hlr]; exact low_rds _ _
      cases mu
      · simp +contextual only [go_sem, ↓reduceIte, Nat.reduceEqDiff, Nat.reduceAdd, Nat.reduceLeDiff, Nat.reduceLT, reduceCtorEq, k37, lt_dec hlt, hx, hw, List.length_map, List.getElem?_map, Option.map_some, Int.natCast_nonneg, Int.toNat_natCast, Nat.zero_add, f1, f2, f3, f4, f5, f6, f7, f8, okE_rds, List.length_append, hla, okE, true_and, and_true, Nat.le_refl, Bool.and_true, decide_true, List.all_cons, List.all_nil, Nat.add_assoc, Nat.add_eq_left, Nat.left_eq_add]
        refine ⟨(a ++ [x], rd ++ x.rds, false), ⟨by rw [i1]; simp, by dsimp only; rw [List.length_append]; exact hx2⟩, .renX [some (n + 7), some (n + 4)] (by simp [maskI, idsB]) rfl (fun id hid => ?_) ?_ ?_ hl2⟩
        · simp only [updH_nk hid, updH_n0 hid, extH_lt hid]
          exact hbase2 id hid
        · intro i k hi hk
          match i with
          | 0 => simp at hi; omega
          | 1 => simp at hi; omega
          | i + 2 => simp at hi
        · simp +contextual only [go_sem, ↓reduceIte, Nat.reduceEqDiff, Nat.reduceAdd, Nat.reduceLeDiff, Nat.reduceLT, reduceCtorEq, hlx, hlr, low2, low3, List.length_append, Nat.add_assoc, Nat.add_eq_left, Nat.left_eq_add]
          exact low2
      · simp +contextual only [go_sem, ↓reduceIte, Nat.reduceEqDiff, Nat.reduceAdd, Nat.reduceLeDiff, Nat.reduceLT, reduceCtorEq, k37, lt_dec hlt, hx, hw, List.length_map, List.getElem?_map, Option.map_some, Int.natCast_nonneg, Int.toNat_natCast, Nat.zero_add, f1, f2, f3, f4, f5, f6, f7, f8, okE_rds, List.length_append, hla, okE, true_and, and_true, Nat.le_refl, Bool.and_true, decide_true, List.all_cons, List.all_nil, Nat.add_assoc, Nat.add_eq_left, Nat.left_eq_add]
        refine ⟨(a ++ [x], rd ++ x.rds, false), ⟨by rw [i1]; simp, by dsimp only; rw [List.length_append]; exact hx2⟩, .renX [some (n + 8), some (n + 4)] (by simp [maskI, idsB]) rfl (fun id hid => ?_) ?_ ?_ hl2⟩
        · simp only [updH_nk hid, updH_n0 hid, extH_lt hid]
          exact hbase2 id hid
        · intro i k hi hk
          match i with
          | 0 => simp at hi; omega
          | 1 => simp at hi; omega
          | i + 2 => simp at hi
        · simp +contextual only [go_sem, ↓reduceIte, Nat.reduceEqDiff, Nat.reduceAdd, Nat.reduceLeDiff, Nat.reduceLT, reduceCtorEq, hlx, hlr, low2, low3, List.length_append, Nat.add_assoc, Nat.add_eq_left, Nat.left_eq_add]
          exact low2
  · intro i a x xs hd hlt hx hinv
    have hw := wrap_nat hlt (by omega)
    have hx2 : a + x.rds.length + nRds xs = nRds l := by rw [← hinv]; simp [nRds]; omega
    have hw2 : IntKind.i64.wrap ((a : Int) + (x.rds.length : Int)) = ((a + x.rds.length : Nat) : Int) := by rw [IntKind.wrap_i64]; omega
    simp +contextual only [go_sem, ↓reduceIte, Nat.reduceEqDiff, Nat.reduceAdd, Nat.reduceLeDiff, Nat.reduceLT, reduceCtorEq, k37, lt_dec hlt, hx, hw, hw2, List.length_map, List.getElem?_map, Option.map_some, Int.natCast_nonneg, Int.toNat_natCast]
    refine ⟨a + x.rds.length, hx2, .renX [] rfl rfl ?_ (by simp) ?_ hl2⟩
    · intro id hid
      right
      rw [updH_ge hid (Nat.le_refl n), updH_ge hid (Nat.le_refl n), extH_lt hid]
      exact ⟨rfl, hH0 id hid⟩
    · simp +contextual only [go_sem, ↓reduceIte, Nat.reduceEqDiff, Nat.reduceAdd, Nat.reduceLeDiff, Nat.reduceLT, reduceCtorEq, rF]
end Go.Proofs.Ytnafhnnhhdmnfaa
