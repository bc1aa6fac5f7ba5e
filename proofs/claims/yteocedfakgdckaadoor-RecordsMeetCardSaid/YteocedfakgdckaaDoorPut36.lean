/- Events by their keys; copies; putting an event into a collection. -/
import Derived.Test.YteocedfakgdckaaDoorCompare
import Derived.Test.YteocedfakgdckaaDoorIdent
namespace Go.Proofs.YteocedfakgdckaaDoor
set_option linter.all false
open Go.Idl
set_option maxHeartbeats 4000000
set_option maxRecDepth 100000
attribute [local go_sem] Tryd.underlying3 Tryd.underlying148 Tryd.underlying9 agKey
theorem putF_ev (id : Nat) (m : List (KeyD × EvD)) (k : KeyD) (e : EvD) :
    putF' id (.agg #[.string k.station, .string k.txn, .int .i64 k.seq]) (.agg [.sc (.string e.station), .sc (.string e.txn), .sc (.int .i64 e.conn), .sc (.int .i64 e.seq), .sc (.int .i64 e.kind), .sc (.int .i64 e.time), .sc (.string e.token), .sc (.bool e.offline), .sc (.int .i64 e.reason), .slice 2 (e.rds.map Cod.enc)]) (keysM m) (valsM m) (some (fidx m k)) =
      some (.any, [(id, .ext (.map (keysM (putM m k e)) (valsM (putM m k e))))]) := putF_typed id _ _ m k _ rfl rfl
def idxE (l : List EvD) : List (KeyD × EvD) := l.foldl (fun m e => putM m (keyE e) e) []
abbrev SIndex : List V → Option V := FT fun (t : List EvD × Unit) => if t.1.length ≤ 1000000 then some (⟨some (idxE t.1)⟩ : KM KeyD EvD) else none
theorem isF_vals (m : List (KeyD × EvD)) : (valsM m).all V.isF = true := by
  simp only [valsM, List.all_map, List.all_eq_true]
  intro x _
  rfl
theorem low_vals (n : Nat) (m : List (KeyD × EvD)) : (valsM m).all (V.low n) = true := by
  simp only [valsM, List.all_map, List.all_eq_true]
  intro x _
  rfl
theorem con58 {Φ : Specs} (hg : Idl.Good Tryd.prog Φ) (h59 : Φ 59 = some SKey) : Contract Tryd.prog 58 SIndex := by
  refine conT hg k58 ic58 (by decide) fun C t r h => ?_
  obtain ⟨l, u⟩ := t
  dsimp only at h
  split at h
  · rename_i hl
    cases h
    simp +contextual only [go_sem, ↓reduceIte, Nat.reduceEqDiff, Nat.reduceAdd, Nat.reduceLeDiff, Nat.reduceLT, reduceCtorEq, c58, k58, List.length_map]
    refine TriI.loopL hg k58 l (fun i (m : List (KeyD × EvD)) => ⟨slotsL [(3, .mapr 0), (9, Cod.enc l), (10, .sc (.int .i64 l.length)), (11, .sc (.int .i64 i))], objsL [.ext (.map (keysM m) (valsM m))], 1⟩)
      (fun xs m => xs.foldl (fun m e => putM m (keyE e) e) m = idxE l) [] (.back rfl ?_) rfl ?_ ?_
    · simp +contextual only [go_sem, ↓reduceIte, Nat.reduceEqDiff, Nat.reduceAdd, Nat.reduceLeDiff, Nat.reduceLT, reduceCtorEq]
      exact ⟨rfl, rfl, rfl⟩
    · intro m hinv
      simp +contextual only [go_sem, ↓reduceIte, Nat.reduceEqDiff, Nat.reduceAdd, Nat.reduceLeDiff, Nat.reduceLT, reduceCtorEq, k58, Int.lt_irrefl, decide_false, isF_vals]
      have : m = idxE l := hinv
      rw [this]
    · intro i m x xs hd hlt hx hinv
      have hw := wrap_nat hlt (by omega)
      simp +contextual only [go_sem, ↓reduceIte, Nat.reduceEqDiff, Nat.reduceAdd, Nat.reduceLeDiff, Nat.reduceLT, reduceCtorEq, k58, lt_dec hlt, hx, hw, h59, List.getElem?_map, Option.map_some, Int.natCast_nonneg, Int.toNat_natCast, putF_ev]
      refine ⟨rfl, putM m (keyE x) x, hinv, .back rfl ?_⟩
      simp +contextual only [go_sem, ↓reduceIte, Nat.reduceEqDiff, Nat.reduceAdd, Nat.reduceLeDiff, Nat.reduceLT, reduceCtorEq, low_vals]
  · cases h
theorem low_evs (n : Nat) (l : List EvD) : (l.map Cod.enc).all (V.low n) = true := by
  simp only [List.all_map, List.all_eq_true]
  intro x _
  rfl
theorem low_rds (n : Nat) (l : List Rdg) : (l.map Cod.enc).all (V.low n) = true := by
  simp only [List.all_map, List.all_eq_true]
  intro x _
  rfl
theorem isF_evs (l : List EvD) : (l.map Cod.enc).all V.isF = true := by
  simp only [List.all_map, List.all_eq_true]
  intro x _
  rfl
theorem isF_rds (l : List Rdg) : (l.map Cod.enc).all V.isF = true := by
  simp only [List.all_map, List.all_eq_true]
  intro x _
  rfl
theorem okE_rds (l : List Rdg) : (l.map Cod.enc).all (okE 2) = true := by
  simp only [List.all_map, List.all_eq_true]
  intro x _
  rfl
theorem updH_ge {H : Heap} {n k id : Nat} {x : Idl.Obj} (h : id < n) (hk : n ≤ k) : updH H k x id = H id := by unfold updH; rw [if_neg (by omega)]
theorem updH_nk {H : Heap} {n k id : Nat} {x : Idl.Obj} (h : id < n) : updH H (n + k) x id = H id := updH_ge h (by omega)
theorem updH_n0 {H : Heap} {n id : Nat} {x : Idl.Obj} (h : id < n) : updH H n x id = H id := updH_ge h (Nat.le_refl n)
def nRds (l : List EvD) : Nat := (l.map fun e => e.rds.length).sum
theorem ct61 {Φ : Specs} (hg : Idl.Good Tryd.prog Φ) {C : Ctx} {H0 : Heap} {r n : Nat} {es l : List EvD} {τ : Nat → V} {K : V → SF → Prop} (hr : r < n) (hH : H0 r = .live 10 (es.map Cod.enc) true) (hH0 : ∀ id, id < n → (H0 id).low n = true) (hun : ∀ k, H0 (n + k) = .unborn)
    (hlen : es.length + l.length ≤ 100000) (hrd : nRds l ≤ 1000000) (hne : ∀ x ∈ l, x.rds ≠ []) (hlow : LowC C n) (hτ : LowT n τ)
    (hk : ∀ τ' (rd : List Rdg) mu, K (.own n 0 (es.length + l.length)) ⟨τ', extH (updH H0 r .dead) n [.live 10 ((es ++ l).map Cod.enc) true, .live 2 (rd.map Cod.enc) mu], n + 2⟩) :
    CallT Tryd.prog C 61 [.own r 0 es.length, Cod.enc l] ⟨τ, H0, n⟩ K := by
  refine CallT.of_walk hg k61 ic61 (by simp) fun C' hlow' => ?_
  have hl2 : LowC C' n := hlow' n hτ hlow
  have rn : ∀ k, (r = n + k) = False := fun k => by simp; omega
  have rn0 : (r = n) = False := by simp; omega
  have rF : ∀ ids, renF n ids r = some (some r) := fun ids => renF_lt hr
  have hbase : ∀ id, id < n → updH H0 r .dead id = .dead ∨ (updH H0 r .dead id = H0 id ∧ (H0 id).low n = true) := fun id hid => by
    by_cases e : id = r
    · left; simp [updH, e]
    · right; exact ⟨by simp [updH, e], hH0 id hid⟩
  have hE : ∀ O, extH H0 n O r = .live 10 (es.map Cod.enc) true := fun O => by rw [extH_lt hr, hH]
  simp +contextual only [go_sem, ↓reduceIte, Nat.reduceEqDiff, Nat.reduceAdd, Nat.reduceLeDiff, Nat.reduceLT, reduceCtorEq, c61, k61, List.length_map]
  refine TriI.loopL hg k61 l (fun i (a : Nat) => ⟨slotsL [(0, .own r 0 es.length), (1, Cod.enc l), (5, .sc (.int .i64 (a : Int))), (12, Cod.enc l), (13, .sc (.int .i64 l.length)), (14, .sc (.int .i64 i))], extH H0 n [], n⟩)
    (fun xs a => a + nRds xs = nRds l) 0 (.renX [] rfl rfl (fun id hid => .inr ⟨rfl, hH0 id hid⟩) (by simp) ?_ hl2) (by simp) ?_ ?_
  · simp +contextual only [go_sem, ↓reduceIte, Nat.reduceEqDiff, Nat.reduceAdd, Nat.reduceLeDiff, Nat.reduceLT, reduceCtorEq, rF]
    rfl
  · intro a hinv
    have ha : a = nRds l := by simpa [nRds] using hinv
    subst ha
    have c1 : ((nRds l : Nat) : Int) ≤ 4294967296 := by omega
    have c2 : 16 * nRds l ≤ 281474976710656 := by omega
    simp +contextual only [go_sem, ↓reduceIte, Nat.reduceEqDiff, Nat.reduceAdd, Nat.reduceLeDiff, Nat.reduceLT, reduceCtorEq, k61, Int.lt_irrefl, decide_false, List.length_map, Int.natCast_nonneg, Int.toNat_natCast, c1, c2, Int.le_refl, true_and, and_true, List.replicate_zero, Int.toNat_zero]
    refine TriI.loopL hg k61 l (fun i (a : List EvD × List Rdg × Bool) => ⟨slotsL [(0, .own n 0 (es.length + i)), (8, .own (n + 1) 0 a.2.1.length), (26, Cod.enc l), (27, .sc (.int .i64 l.length)), (28, .sc (.int .i64 i))], extH (updH H0 r .dead) n [.live 10 ((es ++ a.1).map Cod.enc) true, .live 2 (a.2.1.map Cod.enc) a.2.2], n + 2⟩)
      (fun xs a => l = a.1 ++ xs ∧ a.2.1.length + nRds xs = nRds l) ([], [], true) (.renX [some r, some n] (by simp [maskI, idsB]; omega) rfl ?_ ?_ ?_ hl2) ⟨rfl, by simp⟩ ?_ ?_
    · intro id hid
      rw [updH_ge hid (Nat.le_refl n), extH_lt hid]
      exact hbase id hid
    · intro i k hi hk
      match i with
      | 0 => simp at hi; subst hi; exact .inl (by simp [updH])
      | 1 => simp at hi; omega
      | i + 2 => simp at hi
    · simp +contextual only [go_sem, ↓reduceIte, Nat.reduceEqDiff, Nat.reduceAdd, Nat.reduceLeDiff, Nat.reduceLT, reduceCtorEq, low_evs, rF, rn0, hE, List.append_nil, List.map_nil, List.length_nil, Nat.add_zero]
      rfl
    · rintro ⟨a, rd, mu⟩ hinv
      have e : l = a := by simpa using hinv.1
      subst e
      simp +contextual only [go_sem, ↓reduceIte, Nat.reduceEqDiff, Nat.reduceAdd, Nat.reduceLeDiff, Nat.reduceLT, reduceCtorEq, k61, Int.lt_irrefl, decide_false, List.length_map]
      exact hk _ _ _
    · rintro i ⟨a, rd, mu⟩ x xs hd hlt hx hinv
      have hw := wrap_nat hlt (by omega)
      obtain ⟨i1, i2⟩ := hinv
      dsimp only at i1 i2
      have hil := drop_pre hd i1
      have hx2 : rd.length + x.rds.length + nRds xs = nRds l := by rw [← i2]; simp [nRds]; omega
      have hla : (es ++ a).length = es.length + i := by simp [hil]
      have f1 : (rd.length + x.rds.length) * 16 ≤ 68719476736 := by omega
      have f2 : rd.length + x.rds.length ≤ 4294967296 := by omega
      have f3 : (rd.length = rd.length + x.rds.length) = False := by
        have : 0 < x.rds.length := List.length_pos_iff.2 (hne x (by rw [i1]; simp))
        exact eq_false (by omega)
      have f4 : rd.length ≤ rd.length + x.rds.length := by omega
      have f5 : (((rd.map Cod.enc) ++ (x.rds.map Cod.enc)).drop rd.length).take (rd.length + x.rds.length - rd.length) = x.rds.map Cod.enc := by
        rw [List.drop_left' (by simp), List.take_of_length_le (by simp)]
      have f6 : (rd.map Cod.enc ++ x.rds.map Cod.enc).all V.isF = true := by rw [← List.map_append]; exact isF_rds _
      have f7 : (es.length + (i + 1)) * 120 ≤ 68719476736 := by omega
      have f8 : es.length + (i + 1) ≤ 4294967296 := by omega
      have hlx : (es ++ (a ++ [x])).map Cod.enc = (es ++ a).map Cod.enc ++ [Cod.enc x] := by simp
      have hlr : (rd ++ x.rds).map Cod.enc = rd.map Cod.enc ++ x.rds.map Cod.enc := by simp
      have hbase2 : ∀ id, id < n → updH H0 r .dead id = .dead ∨ (True ∧ (updH H0 r .dead id).low n = true) := fun id hid => by
        rcases hbase id hid with e | ⟨e1, e2⟩
        · exact .inl e
        · exact .inr ⟨trivial, by rw [e1]; exact e2⟩
      have low2 : ((es ++ a).map Cod.enc ++ [Cod.enc x]).all (V.low n) = true := by rw [← hlx]; exact low_evs _ _
      have low3 : (rd.map Cod.enc ++ x.rds.map Cod.enc).all (V.low n) = true := by rw [← hlr]; exact low_rds _ _
      cases mu
      · simp +contextual only [go_sem, ↓reduceIte, Nat.reduceEqDiff, Nat.reduceAdd, Nat.reduceLeDiff, Nat.reduceLT, reduceCtorEq, k61, lt_dec hlt, hx, hw, List.length_map, List.getElem?_map, Option.map_some, Int.natCast_nonneg, Int.toNat_natCast, Nat.zero_add, f1, f2, f3, f4, f5, f6, f7, f8, okE_rds, List.length_append, hla, okE, true_and, and_true, Nat.le_refl, Bool.and_true, decide_true, List.all_cons, List.all_nil, Nat.add_assoc, Nat.add_eq_left, Nat.left_eq_add]
        refine ⟨(a ++ [x], rd ++ x.rds, false), ⟨by rw [i1]; simp, by dsimp only; rw [List.length_append]; exact hx2⟩, .renX [some (n + 7), some (n + 4)] (by simp [maskI, idsB]) rfl (fun id hid => ?_) ?_ ?_ hl2⟩
        · simp only [updH_nk hid, updH_n0 hid, extH_lt hid]
          exact hbase2 id hid
        · intro i k hi hk
          match i with
          | 0 => simp at hi; omega
          | 1 => simp at hi; omega
          | i + 2 => simp at hi
        · simp +contextual only [go_sem, ↓reduceIte, Nat.reduceEqDiff, Nat.reduceAdd, Nat.reduceLeDiff, Nat.reduceLT, reduceCtorEq, hlx, hlr, low2, low3, List.length_append, Nat.add_assoc, Nat.add_eq_left, Nat.left_eq_add]
          exact low2
      · simp +contextual only [go_sem, ↓reduceIte, Nat.reduceEqDiff, Nat.reduceAdd, Nat.reduceLeDiff, Nat.reduceLT, reduceCtorEq, k61, lt_dec hlt, hx, hw, List.length_map, List.getElem?_map, Option.map_some, Int.natCast_nonneg, Int.toNat_natCast, Nat.zero_add, f1, f2, f3, f4, f5, f6, f7, f8, okE_rds, List.length_append, hla, okE, true_and, and_true, Nat.le_refl, Bool.and_true, decide_true, List.all_cons, List.all_nil, Nat.add_assoc, Nat.add_eq_left, Nat.left_eq_add]
        refine ⟨(a ++ [x], rd ++ x.rds, false), ⟨by rw [i1]; simp, by dsimp only; rw [List.length_append]; exact hx2⟩, .renX [some (n + 8), some (n + 4)] (by simp [maskI, idsB]) rfl (fun id hid => ?_) ?_ ?_ hl2⟩
        · simp only [updH_nk hid, updH_n0 hid, extH_lt hid]
          exact hbase2 id hid
        · intro i k hi hk
          match i with
          | 0 => simp at hi; omega
          | 1 => simp at hi; omega
          | i + 2 => simp at hi
        · simp +contextual only [go_sem, ↓reduceIte, Nat.reduceEqDiff, Nat.reduceAdd, Nat.reduceLeDiff, Nat.reduceLT, reduceCtorEq, hlx, hlr, low2, low3, List.length_append, Nat.add_assoc, Nat.add_eq_left, Nat.left_eq_add]
          exact low2
  · intro i a x xs hd hlt hx hinv
    have hw := wrap_nat hlt (by omega)
    have hx2 : a + x.rds.length + nRds xs = nRds l := by rw [← hinv]; simp [nRds]; omega
    have hw2 : IntKind.i64.wrap ((a : Int) + (x.rds.length : Int)) = ((a + x.rds.length : Nat) : Int) := by rw [IntKind.wrap_i64]; omega
    simp +contextual only [go_sem, ↓reduceIte, Nat.reduceEqDiff, Nat.reduceAdd, Nat.reduceLeDiff, Nat.reduceLT, reduceCtorEq, k61, lt_dec hlt, hx, hw, hw2, List.length_map, List.getElem?_map, Option.map_some, Int.natCast_nonneg, Int.toNat_natCast]
    refine ⟨a + x.rds.length, hx2, .renX [] rfl rfl ?_ (by simp) ?_ hl2⟩
    · intro id hid
      right
      rw [updH_ge hid (Nat.le_refl n), updH_ge hid (Nat.le_refl n), extH_lt hid]
      exact ⟨rfl, hH0 id hid⟩
    · simp +contextual only [go_sem, ↓reduceIte, Nat.reduceEqDiff, Nat.reduceAdd, Nat.reduceLeDiff, Nat.reduceLT, reduceCtorEq, rF]
end Go.Proofs.YteocedfakgdckaaDoor
namespace Go.Proofs.YteocedfakgdckaaDoor
set_option linter.all false
open Go.Idl
set_option maxHeartbeats 4000000
set_option maxRecDepth 100000
attribute [local go_sem] Tryd.underlying3 Tryd.underlying148 Tryd.underlying9 Tryd.underlying4 agKey
theorem idM_mapf (ks : List Value) (vs : List V) : idM (.mapf ks vs) = [] := rfl
def setOb : List Idl.Obj → Nat → Idl.Obj → List Idl.Obj
  | [], 0, x => [x]
  | [], k + 1, x => .unborn :: setOb [] k x
  | _ :: O, 0, x => x :: O
  | y :: O, k + 1, x => y :: setOb O k x
theorem setOb_len : ∀ (O : List Idl.Obj) (k : Nat) (x : Idl.Obj) (id : Nat), objsL (setOb O k x) id = if id = k then x else objsL O id
  | [], 0, x, id => by cases id <;> simp [setOb, objsL]
  | [], k + 1, x, id => by
    cases id with
    | zero => simp [setOb, objsL]
    | succ id => simp only [setOb, objsL, setOb_len [] k x id]; simp
  | _ :: O, 0, x, id => by cases id <;> simp [setOb, objsL]
  | y :: O, k + 1, x, id => by
    cases id with
    | zero => simp [setOb, objsL]
    | succ id => simp only [setOb, objsL, setOb_len O k x id]; simp
theorem updH_objs (O : List Idl.Obj) (k : Nat) (x : Idl.Obj) : updH (objsL O) k x = objsL (setOb O k x) := by
  funext id
  rw [setOb_len]; rfl
theorem extH_objs {H0 : Heap} {n : Nat} {O0 O : List Idl.Obj} (hn : O0.length = n) (h : ∀ id, id < n → H0 id = objsL O0 id) : extH H0 n O = objsL (O0 ++ O) := by
  funext id
  unfold extH
  have ha : ∀ (O0 : List Idl.Obj) (id : Nat), objsL (O0 ++ O) id = if id < O0.length then objsL O0 id else objsL O (id - O0.length) := fun O0 => by
    induction O0 with
    | nil => intro id; simp
    | cons y O0 ih =>
      intro id
      cases id with
      | zero => simp [objsL]
      | succ id => simp [objsL, ih id]
  rw [ha, hn]
  split
  · rename_i hid; exact h id hid
  · rfl
theorem objsL_low {n : Nat} : ∀ {O : List Idl.Obj}, O.all (Obj.low n) = true → ∀ id, id < n → (objsL O id).low n = true
  | [], _, id, _ => rfl
  | y :: O, h, 0, _ => by simp at h; exact h.1
  | y :: O, h, id + 1, hid => by
    simp only [List.all_cons, Bool.and_eq_true] at h
    exact objsL_low (O := O) h.2 id (by omega)
theorem ev_rds_ne {e : EvD} (h : evS e = 0) : e.rds ≠ [] := by
  intro e0
  unfold evS at h
  cases h1 : (!okName e.station || !okName e.txn)
  · cases h2 : (!numsS e)
    · cases h3 : (kindS e != 0)
      · simp only [h1, h2, h3, cond_false] at h
        unfold rdsS at h
        rw [e0] at h
        simp at h
      · simp only [h1, h2, h3, cond_false, cond_true] at h
        rw [h] at h3
        simp at h3
    · simp [h1, h2] at h
  · simp [h1] at h
theorem nRds_le {l : List EvD} (h : ∀ e ∈ l, evS e = 0) : nRds l ≤ 16 * l.length := by
  induction l with
  | nil => simp [nRds]
  | cons a l ih =>
    have h1 := ev_rds (h a (by simp))
    have h2 := ih fun e he => h e (by simp [he])
    simp only [nRds, List.map_cons, List.sum_cons, List.length_cons] at h2 ⊢
    omega
theorem cto61 {Φ : Specs} (hg : Idl.Good Tryd.prog Φ) {C : Ctx} {O O' : List Idl.Obj} {r n : Nat} {es l : List EvD} {τ : Nat → V} {K : V → SF → Prop} (hn : O.length = n) (hr : r < n) (hO : objsL O r = .live 10 (es.map Cod.enc) true) (hO' : O.set r .dead = O') (hH0 : O.all (Obj.low n) = true)
    (hlen : es.length + l.length ≤ 10000) (hl : ∀ x ∈ l, evS x = 0) (hlow : LowC C n) (hτ : LowT n τ)
    (hk : ∀ τ' (rd : List Rdg) mu, K (.own n 0 (es.length + l.length)) ⟨τ', objsL (O' ++ [.live 10 ((es ++ l).map Cod.enc) true, .live 2 (rd.map Cod.enc) mu]), n + 2⟩) :
    CallT Tryd.prog C 61 [.own r 0 es.length, .slice 10 (l.map Cod.enc)] ⟨τ, objsL O, n⟩ K := by
  have hset : ∀ (O : List Idl.Obj) (r : Nat) (x : Idl.Obj) (id : Nat), id < O.length → objsL (O.set r x) id = if id = r then x else objsL O id := by
    intro O
    induction O with
    | nil => intro r x id h; simp at h
    | cons y O ih =>
      intro r x id h
      cases r with
      | zero => cases id <;> simp [objsL]
      | succ r =>
        cases id with
        | zero => simp [objsL]
        | succ id => simp only [List.set_cons_succ, objsL]; rw [ih r x id (by simpa using h)]; simp
  refine ct61 hg hr hO (objsL_low hH0) (fun k => objsL_out (by omega)) (by omega) ?_ (fun x hx => ev_rds_ne (hl x hx)) hlow hτ fun τ' rd mu => ?_
  · have := nRds_le hl
    omega
  · rw [extH_objs (O0 := O') (by rw [← hO', List.length_set, hn]) fun id hid => by
      rw [← hO', hset O r .dead id (by omega)]; rfl]
    exact hk τ' rd mu
theorem callT_fix {P : Program} {C : Ctx} {f : FuncId} {a : V} {id sz : Nat} {es : List V} {τ : Nat → V} {H : Heap} {n : Nat} {K : V → SF → Prop} (hl : H id = .live sz es true) (hf : es.all V.isF = true)
    (h : CallT P C f [a, .slice sz es] ⟨τ, updH H id (.live sz es false), n⟩ K) : CallT P C f [a, .own id 0 es.length] ⟨τ, H, n⟩ K := by
  refine ⟨h.1, fun tm w γ I args hS hlen hr => ?_⟩
  obtain ⟨I', hI, hS'⟩ := hS.freezeOne hl hf
  refine h.2 tm w γ I' args hS' hlen fun j x u hx hu => ?_
  match j with
  | 0 => exact (hr 0 x u hx hu).mono (Pres.refl I w) hI fun _ _ h => h
  | 1 =>
    cases hx
    have h1 := (hr 1 (.own id 0 es.length) u rfl hu).mono (Pres.refl I w) hI fun _ _ h => h
    have h2 := own_frozen hS' (id := id) (sz := sz) (es := es) (by simp [updH]) (by simp) h1
    simp only [List.drop_zero, List.take_length] at h2
    exact h2.mono (Pres.refl I' w) (fun _ _ h => h) fun id p hp => by simp [noPlaces] at hp
  | j + 2 => simp at hx
theorem look_fold (l : List EvD) (k : KeyD) : ∀ (m : List (KeyD × EvD)), (∀ x, lookM (l.foldl (fun m e => putM m (keyE e) e) m) k = some x → (x ∈ l ∧ keyE x = k) ∨ (lookM m k = some x ∧ ∀ y ∈ l, keyE y ≠ k)) ∧
    (lookM (l.foldl (fun m e => putM m (keyE e) e) m) k = none → lookM m k = none ∧ ∀ y ∈ l, keyE y ≠ k) := by
  induction l with
  | nil => intro m; exact ⟨fun x h => .inr ⟨h, by simp⟩, fun h => ⟨h, by simp⟩⟩
  | cons a l ih =>
    intro m
    obtain ⟨h1, h2⟩ := ih (putM m (keyE a) a)
    simp only [List.foldl_cons]
    rw [lookM_put] at h1 h2
    refine ⟨fun x hx => ?_, fun hx => ?_⟩
    · rcases h1 x hx with ⟨q1, q2⟩ | ⟨q1, q2⟩
      · exact .inl ⟨by simp [q1], q2⟩
      · split at q1
        · rename_i e
          cases q1
          exact .inl ⟨by simp, e.symm⟩
        · rename_i e
          exact .inr ⟨q1, fun y hy => by
            rcases List.mem_cons.1 hy with rfl | hy
            · exact fun h => e h.symm
            · exact q2 y hy⟩
    · obtain ⟨q1, q2⟩ := h2 hx
      split at q1
      · cases q1
      · rename_i e
        exact ⟨q1, fun y hy => by
            rcases List.mem_cons.1 hy with rfl | hy
            · exact fun h => e h.symm
            · exact q2 y hy⟩
theorem look_idx {l : List EvD} {k : KeyD} {x : EvD} (h : lookM (idxE l) k = some x) : x ∈ l ∧ keyE x = k := by
  rcases (look_fold l k []).1 x h with h | ⟨h, _⟩
  · exact h
  · cases h
theorem look_idx0 {l : List EvD} {k : KeyD} (h : lookM (idxE l) k = none) : ∀ y ∈ l, keyE y ≠ k := ((look_fold l k []).2 h).2
def segB (l : List EvD) (k : KeyD) : List EvD := (l.take (toB l k)).drop (fromB l k)
def cntB (l : List EvD) (e : EvD) : Nat := (l.filter fun x => decide (x.seq < e.seq)).length
def placeB (l : List EvD) (e : EvD) : Nat := fromB l (kAt e.station e.txn) + cntB (segB l (kAt e.station e.txn)) e
def putS (l : List EvD) (e : EvD) : List EvD × Int :=
  bif evS e != 0 then (l, evS e) else match lookM (idxE (segB l (kAt e.station e.txn))) (keyE e) with
  | some x => bif sameE x e then (l, 9) else (l, 23)
  | none => bif (segB l (kAt e.station e.txn)).any (fun x => contra x e) then (l, 1) else bif decide (l.length ≥ 4096) then (l, 3)
    else (l.take (placeB l e) ++ [e] ++ l.drop (placeB l e), 0)
abbrev SPut : List V → Option V := FT fun (t : List EvD × EvD × Unit) => if colS t.1 = 0 then some (putS t.1 t.2.1) else none
theorem toB_le (l : List EvD) (k : KeyD) : fromB l k ≤ toB l k ∧ toB l k ≤ l.length := by
  have h1 := (takeW (lessK k) l).1
  have h2 := (takeW (sameKb k) (l.drop (fromB l k))).1
  simp only [List.length_drop] at h2
  unfold toB fromB at *
  omega
theorem con28 {Φ : Specs} (hg : Idl.Good Tryd.prog Φ) (h35 : Φ 35 = some SEv) (h57 : Φ 57 = some SBounds) (h58 : Φ 58 = some SIndex) (h59 : Φ 59 = some SKey) (h39 : Φ 39 = some SSame) (h60 : Φ 60 = some SContra) (h61 : Φ 61 = none) :
    Contract Tryd.prog 28 SPut := by
  refine conT hg k28 ic28 (by decide) fun C t r h => ?_
  obtain ⟨l, e, u⟩ := t
  dsimp only at h
  split at h
  · rename_i hl
    have hC := colS_ok.1 hl
    cases h
    have hlen := hC.len
    obtain ⟨t1, t2⟩ := toB_le l (kAt e.station e.txn)
    have hsl : List.drop (fromB l (kAt e.station e.txn)) (List.take (toB l (kAt e.station e.txn)) (List.map Cod.enc l)) = (segB l (kAt e.station e.txn)).map Cod.enc := by rw [segB, List.map_drop, List.map_take]
    have hsg : (segB l (kAt e.station e.txn)).length ≤ 1000000 := by simp [segB]; omega
    cases hlk : lookM (idxE (segB l (kAt e.station e.txn))) (keyE e) with
    | some x =>
      have hlk' : lookM (idxE (segB l (kAt e.station e.txn))) ⟨e.station, e.txn, e.seq⟩ = some x := hlk
      have hx : x.rds.length ≤ 1000000 := by
        have := ev_rds (hC.ok x (List.mem_of_mem_take (List.mem_of_mem_drop (look_idx hlk).1)))
        omega
      simp +contextual only [go_sem, ↓reduceIte, Nat.reduceEqDiff, Nat.reduceAdd, Nat.reduceLeDiff, Nat.reduceLT, reduceCtorEq, c28, k28, List.length_map, h35, h57, hl, Int.natCast_nonneg, Int.toNat_natCast, t1, t2, hsl, hsg, h58, h59, true_and, and_true, Option.map_none, Option.map_some, hlk, hlk', keyE, h39, hx, idM_mapf]
      have hP : (evS e != 0) = false → putS l e = bif sameE x e then (l, 9) else (l, 23) := fun h => by simp only [putS, h, cond_false, hlk]
      exact ⟨fun h => by simp only [putS, h, cond_true], fun h => ⟨rfl, fun h2 => by rw [hP h, h2]; rfl, fun h2 => by rw [hP h, h2]; rfl⟩⟩
    | none =>
      have hlk' : lookM (idxE (segB l (kAt e.station e.txn))) ⟨e.station, e.txn, e.seq⟩ = none := hlk
      simp +contextual only [go_sem, ↓reduceIte, Nat.reduceEqDiff, Nat.reduceAdd, Nat.reduceLeDiff, Nat.reduceLT, reduceCtorEq, c28, k28, List.length_map, h35, h57, hl, Int.natCast_nonneg, Int.toNat_natCast, t1, t2, hsl, hsg, h58, h59, true_and, and_true, Option.map_none, Option.map_some, hlk, hlk', keyE, idM_mapf]
      refine ⟨fun h => by simp only [putS, h, cond_true], fun h => ⟨rfl, ?_⟩⟩
      have hP : putS l e = bif (segB l (kAt e.station e.txn)).any (fun x => contra x e) then (l, 1) else bif decide (l.length ≥ 4096) then (l, 3)
        else (l.take (placeB l e) ++ [e] ++ l.drop (placeB l e), 0) := by simp only [putS, h, cond_false, hlk]
      have hS : segB l (kAt e.station e.txn) = segB l (kAt e.station e.txn) := rfl
      generalize hseg : segB l (kAt e.station e.txn) = seg at hS hP hsg hsl hlk hlk'
      have hpl : placeB l e = fromB l (kAt e.station e.txn) + cntB seg e := by rw [placeB, hseg]
      have hpl2 : placeB l e ≤ l.length := by
        have : cntB seg e ≤ seg.length := List.length_filter_le _ _
        have h2 : seg.length ≤ toB l (kAt e.station e.txn) - fromB l (kAt e.station e.txn) := by rw [← hseg]; simp [segB]; omega
        omega
      refine TriI.loopL hg k28 seg (fun i (a : Nat) => ⟨slotsL [(0, Cod.enc l), (3, .ref 0 0 0), (11, .sc (.int .i64 ((fromB l (kAt e.station e.txn) + a : Nat) : Int))), (51, Cod.enc seg), (52, .sc (.int .i64 seg.length)), (53, .sc (.int .i64 i))], objsL [.live 10 [Cod.enc e] true], 1⟩)
        (fun xs a => a + cntB xs e = cntB seg e ∧ (seg.any fun x => contra x e) = (xs.any fun x => contra x e)) 0 (.back rfl ?_) ⟨by simp, rfl⟩ ?_ ?_
      · simp +contextual only [go_sem, ↓reduceIte, Nat.reduceEqDiff, Nat.reduceAdd, Nat.reduceLeDiff, Nat.reduceLT, reduceCtorEq, List.length_map]
        exact ⟨rfl, rfl⟩
      · rintro a ⟨i1, i2⟩
        have ha : a = cntB seg e := by simpa [cntB] using i1
        subst ha
        rw [← hpl]
        rw [i2] at hP
        have w1 : IntKind.i64.wrap ((l.length : Int) + 1) = ((l.length + 1 : Nat) : Int) := by rw [IntKind.wrap_i64]; omega
        have b1 : 120 * (l.length + 1) ≤ 281474976710656 := by omega
        have b2 : ((l.length + 1 : Nat) : Int) ≤ 4294967296 := by omega
        have b3 : (0 : Int) ≤ ((l.length + 1 : Nat) : Int) := by omega
        simp +contextual only [go_sem, ↓reduceIte, Nat.reduceEqDiff, Nat.reduceAdd, Nat.reduceLeDiff, Nat.reduceLT, reduceCtorEq, k28, Int.lt_irrefl, decide_false, List.length_map, w1, b1, b2, b3, Int.le_refl, true_and, and_true, Int.toNat_natCast, List.replicate_zero, Int.toNat_zero, Int.natCast_nonneg, hpl2, Nat.zero_le, List.drop_zero, h61, Option.map_none, Option.map_some]
        refine ⟨fun h4 => ?_, fun h4 => ?_⟩
        · have : decide (l.length ≥ 4096) = true := by simp at h4 ⊢; omega
          rw [hP, this]; rfl
        · have h4' : decide (l.length ≥ 4096) = false := by simp at h4 ⊢; omega
          rw [h4'] at hP
          simp only [List.any_nil, cond_false] at hP
          have hev : evS e = 0 := by simpa using h
          have hn1 := nRds_le hC.ok
          rw [← List.map_take]
          rw [updH_objs]
          refine cto61 (O := [_, _]) (es := []) (l := l.take (placeB l e)) (r := 1) (n := 2) hg rfl (by omega) rfl rfl rfl (by simp; omega) (fun x hx => hC.ok x (List.mem_of_mem_take hx)) (LowC.top _ _) (by repeat (first | exact LowT.nil | apply LowT.upd | apply LowT.prune | apply LowT.cons | rfl | exact low_evs _ _)) fun τ' rd mu => ?_
          simp +contextual only [go_sem, ↓reduceIte, Nat.reduceEqDiff, Nat.reduceAdd, Nat.reduceLeDiff, Nat.reduceLT, reduceCtorEq, k28, List.length_map, List.cons_append, List.nil_append, h61, List.length_nil, Nat.zero_add]
          refine callT_fix (sz := 10) (es := [Cod.enc e]) rfl rfl ?_
          simp only [updH_objs]
          refine cto61 (O := [_, _, _, _, _]) (es := l.take (placeB l e)) (l := [e]) (r := 2) (n := 5) hg rfl (by omega) rfl rfl ?_ (by simp; omega) (by simpa using hev) (LowC.top _ _) (by repeat (first | exact LowT.nil | apply LowT.upd | apply LowT.prune | apply LowT.cons | rfl | exact low_evs _ _)) fun τ' rd mu => ?_
          · simp only [List.all_cons, List.all_nil, Obj.low, low_evs, low_rds, Bool.and_true, Bool.true_and]; rfl
          have hdl : List.drop (placeB l e) (List.take l.length (List.map Cod.enc l)) = (l.drop (placeB l e)).map Cod.enc := by rw [List.take_of_length_le (by simp), List.map_drop]
          simp +contextual only [go_sem, ↓reduceIte, Nat.reduceEqDiff, Nat.reduceAdd, Nat.reduceLeDiff, Nat.reduceLT, reduceCtorEq, k28, List.length_map, List.cons_append, List.nil_append, h61, List.length_nil, Option.map_none, Option.map_some, Int.natCast_nonneg, Int.toNat_natCast, hpl2, hdl, Nat.le_refl, true_and, and_true]
          rw [show (l.take (placeB l e)).length + 1 = (l.take (placeB l e) ++ [e]).length from by simp]
          refine cto61 (O := [_, _, _, _, _, _, _]) (es := l.take (placeB l e) ++ [e]) (l := l.drop (placeB l e)) (r := 5) (n := 7) hg rfl (by omega) rfl rfl ?_ (by simp; omega) (fun x hx => hC.ok x (List.mem_of_mem_drop hx)) (LowC.top _ _) (by repeat (first | exact LowT.nil | apply LowT.upd | apply LowT.prune | apply LowT.cons | rfl | exact low_evs _ _)) fun τ' rd mu => ?_
          · simp only [List.all_cons, List.all_nil, Obj.low, low_evs, low_rds, Bool.and_true, Bool.true_and]; rfl
          simp +contextual only [go_sem, ↓reduceIte, Nat.reduceEqDiff, Nat.reduceAdd, Nat.reduceLeDiff, Nat.reduceLT, reduceCtorEq, List.cons_append, List.nil_append, List.length_map, List.length_append, Nat.zero_add, Nat.le_refl, isF_evs, true_and, and_true, List.drop_zero, hP]
          rw [List.take_of_length_le (by simp; omega)]
          simp +contextual only [go_sem, ↓reduceIte, Nat.reduceEqDiff, Nat.reduceAdd, Nat.reduceLeDiff, Nat.reduceLT, reduceCtorEq]
      · rintro i a x xs hd hlt hx ⟨i1, i2⟩
        have hw := wrap_nat hlt (by omega)
        have hwp : IntKind.i64.wrap (((fromB l (kAt e.station e.txn) + a : Nat) : Int) + 1) = ((fromB l (kAt e.station e.txn) + (a + 1) : Nat) : Int) := by
          have : cntB seg e ≤ seg.length := List.length_filter_le _ _
          rw [IntKind.wrap_i64]; omega
        simp +contextual only [go_sem, ↓reduceIte, Nat.reduceEqDiff, Nat.reduceAdd, Nat.reduceLeDiff, Nat.reduceLT, reduceCtorEq, k28, lt_dec hlt, hx, hw, hwp, List.length_map, List.getElem?_map, Option.map_some, Int.natCast_nonneg, Int.toNat_natCast, h60]
        refine ⟨fun hc => ?_, fun hc => ⟨fun hs => ⟨a + 1, ⟨?_, ?_⟩, .back rfl ?_⟩, fun hs => ⟨a, ⟨?_, ?_⟩, .back rfl ?_⟩⟩⟩
        · rw [hP, i2]; simp [hc]
        · rw [← i1]; simp [cntB, hs]; omega
        · rw [i2]; simp [hc]
        · simp +contextual only [go_sem, ↓reduceIte, Nat.reduceEqDiff, Nat.reduceAdd, Nat.reduceLeDiff, Nat.reduceLT, reduceCtorEq, hw]
        · rw [← i1]; simp only [decide_eq_false_iff_not] at hs; simp [cntB, hs]
        · rw [i2]; simp [hc]
        · simp +contextual only [go_sem, ↓reduceIte, Nat.reduceEqDiff, Nat.reduceAdd, Nat.reduceLeDiff, Nat.reduceLT, reduceCtorEq, hw]
  · cases h
end Go.Proofs.YteocedfakgdckaaDoor
namespace Go.Proofs.YteocedfakgdckaaDoor
set_option linter.all false
open Go.Idl
set_option maxHeartbeats 4000000
set_option maxRecDepth 100000
attribute [local go_sem] Tryd.underlying3 Tryd.underlying148 Tryd.underlying9 Tryd.underlying4 agKey
abbrev SOf : List V → Option V := FT fun (t : List EvD × ByteArray × ByteArray × Unit) => if colS t.1 = 0 then some (segB t.1 (kAt t.2.1 t.2.2.1)) else none
theorem segB_mem {l : List EvD} {k : KeyD} {x : EvD} (h : x ∈ segB l k) : x ∈ l := List.mem_of_mem_take (List.mem_of_mem_drop h)
theorem segB_len (l : List EvD) (k : KeyD) : (segB l k).length = toB l k - fromB l k := by
  have := toB_le l k
  simp [segB]; omega
theorem con30 {Φ : Specs} (hg : Idl.Good Tryd.prog Φ) (h57 : Φ 57 = some SBounds) (h61 : Φ 61 = none) : Contract Tryd.prog 30 SOf := by
  refine conT hg k30 ic30 (by decide) fun C t r h => ?_
  obtain ⟨l, x, y, u⟩ := t
  dsimp only at h
  split at h
  · rename_i hl
    have hC := colS_ok.1 hl
    cases h
    have hlen := hC.len
    obtain ⟨t1, t2⟩ := toB_le l (kAt x y)
    have hsl : List.drop (fromB l (kAt x y)) (List.take (toB l (kAt x y)) (List.map Cod.enc l)) = (segB l (kAt x y)).map Cod.enc := by rw [segB, List.map_drop, List.map_take]
    have hsg := segB_len l (kAt x y)
    have w1 : IntKind.i64.wrap ((toB l (kAt x y) : Int) - (fromB l (kAt x y) : Int)) = ((segB l (kAt x y)).length : Int) := by rw [IntKind.wrap_i64, hsg]; omega
    have b1 : 120 * (segB l (kAt x y)).length ≤ 281474976710656 := by omega
    have b2 : ((segB l (kAt x y)).length : Int) ≤ 4294967296 := by omega
    simp +contextual only [go_sem, ↓reduceIte, Nat.reduceEqDiff, Nat.reduceAdd, Nat.reduceLeDiff, Nat.reduceLT, reduceCtorEq, c30, k30, List.length_map, h57, hl, Int.natCast_nonneg, Int.toNat_natCast, t1, t2, hsl, true_and, and_true, w1, b1, b2, Int.le_refl, List.replicate_zero, Int.toNat_zero, Option.map_none, Option.map_some, h61]
    refine ⟨rfl, rfl, ?_⟩
    refine ct61 (es := []) (l := segB l (kAt x y)) (r := 3) (n := 8) hg (by omega) (by simp [updH]) (fun id hid => by unfold updH; split <;> rfl) (fun k => by unfold updH; rw [if_neg (by omega)]) (by simp; omega) ?_
      (fun z hz => ev_rds_ne (hC.ok z (segB_mem hz))) (LowC.top _ _) (by repeat (first | exact LowT.pnil | apply LowT.upd | apply LowT.prune | apply LowT.pcons | rfl | exact low_evs _ _)) fun τ' rd mu => ?_
    · have := nRds_le (l := segB l (kAt x y)) fun z hz => hC.ok z (segB_mem hz)
      omega
    simp +contextual only [go_sem, ↓reduceIte, Nat.reduceEqDiff, Nat.reduceAdd, Nat.reduceLeDiff, Nat.reduceLT, reduceCtorEq, List.nil_append, List.length_map, List.length_nil, Nat.zero_add, Nat.le_refl, isF_evs, true_and, and_true, List.drop_zero, List.take_length]
    rw [List.take_of_length_le (by simp)]
    simp +contextual only [go_sem, ↓reduceIte, Nat.reduceEqDiff, Nat.reduceAdd, Nat.reduceLeDiff, Nat.reduceLT, reduceCtorEq]
  · cases h
end Go.Proofs.YteocedfakgdckaaDoor
namespace Go.Proofs.YteocedfakgdckaaDoor
set_option linter.all false
open Go.Idl
set_option maxHeartbeats 4000000
set_option maxRecDepth 100000
attribute [local go_sem] Tryd.underlying3 Tryd.underlying148 Tryd.underlying9 Tryd.underlying4 agKey
def rdsOk (l : List EvD) : Bool := decide (l.length ≤ 1000000) && l.all fun x => decide (x.rds.length ≤ 1000000)
theorem rdsOk_at {l : List EvD} (h : rdsOk l = true) {i : Nat} {x : EvD} (hx : l[i]? = some x) : x.rds.length ≤ 1000000 := by
  simp only [rdsOk, Bool.and_eq_true, List.all_eq_true, decide_eq_true_eq] at h
  exact h.2 x (List.mem_of_getElem? hx)
def hitR (e x : EvD) : Bool := one x e && (x.seq == e.seq)
def atR (l : List EvD) (e : EvD) : Nat := (l.takeWhile fun x => bef x e).length
def putR (l : List EvD) (e : EvD) : List EvD × Int :=
  bif evS e != 0 then (l, evS e) else match l.find? (hitR e) with
  | some x => bif sameE x e then (l, 9) else (l, 23)
  | none => bif l.any (fun x => one x e && contra x e) then (l, 1) else bif decide (l.length ≥ 4096) then (l, 3)
    else (l.take (atR l e) ++ [e] ++ l.drop (atR l e), 0)
theorem okE_evs (l : List EvD) : (l.map Cod.enc).all (okE 10) = true := by
  simp only [List.all_map, List.all_eq_true]
  intro x _
  rfl
end Go.Proofs.YteocedfakgdckaaDoor
namespace Go.Proofs.YteocedfakgdckaaDoor
set_option linter.all false
open Go.Idl
theorem bef_key {a b c d : EvD} (h1 : keyE a = keyE c) (h2 : keyE b = keyE d) : bef a b = bef c d := by unfold bef; rw [h1, h2]
theorem Coll.uniq {l : List EvD} (h : Coll l) {x y : EvD} (hx : x ∈ l) (hy : y ∈ l) (hk : keyE x = keyE y) : x = y := by
  obtain ⟨i, hi, rfl⟩ := List.mem_iff_getElem.1 hx
  obtain ⟨j, hj, rfl⟩ := List.mem_iff_getElem.1 hy
  have hp := List.pairwise_iff_getElem.1 h.ord
  by_cases e : i = j
  · subst e; rfl
  · exfalso
    by_cases e2 : i < j
    · have := (hp i j hi hj e2).1
      rw [bef_key hk rfl, bef_irrefl] at this; cases this
    · have := (hp j i hj hi (by omega)).1
      rw [bef_key rfl hk, bef_irrefl] at this; cases this
theorem bef_le {a b : EvD} (h : bef a b = true) : cmpT (keyE a) (keyE b) ≤ 0 := by
  rw [bef_iff] at h
  omega
theorem dw_ge {l : List EvD} (hp : l.Pairwise fun a b => cmpT (keyE a) (keyE b) ≤ 0) (k : KeyD) : ∀ x ∈ l.dropWhile (lessK k), 0 ≤ cmpT (keyE x) k := by
  induction l with
  | nil => simp
  | cons a l ih =>
    rw [List.pairwise_cons] at hp
    cases hb : lessK k a with
    | true => rw [List.dropWhile_cons_of_pos hb]; exact ih hp.2
    | false =>
      rw [List.dropWhile_cons_of_neg (by simp [hb])]
      simp only [lessK, decide_eq_false_iff_not] at hb
      intro x hx
      rcases List.mem_cons.1 hx with rfl | hx
      · omega
      · have h1 := hp.1 x hx
        apply Int.not_lt.1
        intro h2
        exact hb (cmpT_le_lt h1 h2)
theorem dw_gt {l : List EvD} (hp : l.Pairwise fun a b => cmpT (keyE a) (keyE b) ≤ 0) (k : KeyD) (hge : ∀ x ∈ l, 0 ≤ cmpT (keyE x) k) : ∀ x ∈ l.dropWhile (sameKb k), 0 < cmpT (keyE x) k := by
  induction l with
  | nil => simp
  | cons a l ih =>
    rw [List.pairwise_cons] at hp
    cases hb : sameKb k a with
    | true => rw [List.dropWhile_cons_of_pos hb]; exact ih hp.2 fun x hx => hge x (by simp [hx])
    | false =>
      rw [List.dropWhile_cons_of_neg (by simp [hb])]
      have h0 := hge a (by simp)
      simp only [sameKb, beq_eq_false_iff_ne, ne_eq] at hb
      intro x hx
      rcases List.mem_cons.1 hx with rfl | hx
      · omega
      · have h1 := hp.1 x hx
        apply Int.not_le.1
        intro h2
        have := cmpT_le_le h1 h2
        omega
theorem Coll.le2 {l : List EvD} (h : Coll l) : l.Pairwise fun a b => cmpT (keyE a) (keyE b) ≤ 0 := h.ord.imp fun h => bef_le h.1
theorem segB_eq (l : List EvD) (k : KeyD) : segB l k = (l.dropWhile (lessK k)).takeWhile (sameKb k) := by
  have h1 : l.drop (fromB l k) = l.dropWhile (lessK k) := by
    conv => lhs; arg 2; rw [← List.takeWhile_append_dropWhile (p := lessK k) (l := l)]
    rw [fromB, List.drop_left]
  unfold segB
  rw [List.drop_take]
  have : toB l k - fromB l k = ((l.dropWhile (lessK k)).takeWhile (sameKb k)).length := by
    unfold toB; rw [h1]; omega
  rw [this, h1]
  conv => lhs; arg 2; rw [← List.takeWhile_append_dropWhile (p := sameKb k) (l := l.dropWhile (lessK k))]
  rw [List.take_left]
theorem seg_split {l : List EvD} (hC : Coll l) (k : KeyD) : ∃ L R, l = L ++ (segB l k ++ R) ∧ L.length = fromB l k ∧ (∀ x ∈ L, cmpT (keyE x) k < 0) ∧ (∀ x ∈ segB l k, cmpT (keyE x) k = 0) ∧ ∀ x ∈ R, 0 < cmpT (keyE x) k := by
  refine ⟨l.takeWhile (lessK k), (l.dropWhile (lessK k)).dropWhile (sameKb k), ?_, rfl, fun x hx => ?_, fun x hx => ?_, ?_⟩
  · rw [segB_eq, List.takeWhile_append_dropWhile, List.takeWhile_append_dropWhile]
  · have := List.all_eq_true.1 List.all_takeWhile x hx
    simpa [lessK] using this
  · rw [segB_eq] at hx
    have := List.all_eq_true.1 List.all_takeWhile x hx
    simpa [sameKb] using this
  · exact dw_gt (hC.le2.sublist (List.dropWhile_sublist _)) k (dw_ge hC.le2 k)
theorem seg_mem {l : List EvD} (hC : Coll l) (k : KeyD) {x : EvD} : x ∈ segB l k ↔ x ∈ l ∧ cmpT (keyE x) k = 0 := by
  obtain ⟨L, R, h1, h2, h3, h4, h5⟩ := seg_split hC k
  constructor
  · intro h; exact ⟨by rw [h1]; simp [h], h4 x h⟩
  · rintro ⟨h, h0⟩
    rw [h1, List.mem_append, List.mem_append] at h
    rcases h with h | h | h
    · have := h3 x h; omega
    · exact h
    · have := h5 x h; omega
theorem seg_filter {l : List EvD} (hC : Coll l) (k : KeyD) : segB l k = l.filter (sameKb k) := by
  obtain ⟨L, R, h1, h2, h3, h4, h5⟩ := seg_split hC k
  conv => rhs; rw [h1]
  rw [List.filter_append, List.filter_append, List.filter_eq_nil_iff.2 fun x hx => ?_, List.filter_eq_self.2 fun x hx => ?_, List.filter_eq_nil_iff.2 fun x hx => ?_]
  · simp
  · have := h5 x hx; simp [sameKb]; omega
  · simp [sameKb, h4 x hx]
  · have := h3 x hx; simp [sameKb]; omega
theorem tw_filter {α : Type} {p : α → Bool} : ∀ {l : List α}, l.Pairwise (fun a b => p b = true → p a = true) → l.takeWhile p = l.filter p
  | [], _ => rfl
  | x :: l, h => by
    rw [List.pairwise_cons] at h
    cases hp : p x with
    | true => rw [List.takeWhile_cons_of_pos hp, List.filter_cons_of_pos hp, tw_filter h.2]
    | false =>
      rw [List.takeWhile_cons_of_neg (by simp [hp]), List.filter_cons_of_neg (by simp [hp]), List.filter_eq_nil_iff.2 fun y hy hb => ?_]
      have := h.1 y hy hb
      rw [hp] at this; cases this
theorem kAt_cmp (a : KeyD) (e : EvD) : cmpT a (kAt e.station e.txn) = cmpT a (keyE e) := rfl
theorem atR_filter {l : List EvD} (hC : Coll l) (e : EvD) : l.takeWhile (fun x => bef x e) = l.filter fun x => bef x e := tw_filter (hC.ord.imp fun h hb => bef_trans h.1 hb)
theorem place_at {l : List EvD} (hC : Coll l) (e : EvD) : placeB l e = atR l e := by
  obtain ⟨L, R, h1, h2, h3, h4, h5⟩ := seg_split hC (kAt e.station e.txn)
  unfold placeB atR cntB
  rw [atR_filter hC, ← h2]
  generalize segB l (kAt e.station e.txn) = S at *
  have f1 : L.filter (fun x => bef x e) = L := List.filter_eq_self.2 fun x hx => by
    have := h3 x hx
    rw [kAt_cmp] at this
    rw [bef_iff]; omega
  have f2 : R.filter (fun x => bef x e) = [] := List.filter_eq_nil_iff.2 fun x hx => by
    have := h5 x hx
    rw [kAt_cmp] at this
    rw [bef_iff]; omega
  have f3 : S.filter (fun x => bef x e) = S.filter fun x => decide (x.seq < e.seq) := List.filter_congr fun x hx => by
    have := h4 x hx
    rw [kAt_cmp] at this
    rw [Bool.eq_iff_iff, bef_iff]; simp [this]
  rw [h1, List.filter_append, List.filter_append, f1, f2, f3]
  simp
theorem hit_key {e x : EvD} : hitR e x = true ↔ keyE x = keyE e := by
  simp [hitR, one, keyE, and_assoc]
theorem key_cmp {a b : EvD} (h : keyE a = keyE b) : cmpT (keyE a) (keyE b) = 0 := by rw [h]; exact cmpT_eq.2 ⟨rfl, rfl⟩
theorem putS_eq {l : List EvD} (hC : Coll l) (e : EvD) : putS l e = putR l e := by
  unfold putS putR
  cases h : (evS e != 0)
  · simp only [cond_false]
    have hany : ((segB l (kAt e.station e.txn)).any fun x => contra x e) = l.any fun x => one x e && contra x e := by
      rw [Bool.eq_iff_iff, List.any_eq_true, List.any_eq_true]
      constructor
      · rintro ⟨x, hx, hc⟩
        obtain ⟨m1, m2⟩ := (seg_mem hC _).1 hx
        exact ⟨x, m1, by rw [hc, (one_iff x e).2 m2]; rfl⟩
      · rintro ⟨x, hx, hc⟩
        simp only [Bool.and_eq_true] at hc
        exact ⟨x, (seg_mem hC _).2 ⟨hx, (one_iff x e).1 hc.1⟩, hc.2⟩
    cases hlk : lookM (idxE (segB l (kAt e.station e.txn))) (keyE e) with
    | some x =>
      obtain ⟨m1, m2⟩ := look_idx hlk
      have m3 := ((seg_mem hC _).1 m1).1
      cases hf : l.find? (hitR e) with
      | none => exact absurd (hit_key.2 m2) (by have := List.find?_eq_none.1 hf x m3; simpa using this)
      | some y =>
        have m4 := List.mem_of_find?_eq_some hf
        have m5 := hit_key.1 (List.find?_some hf)
        have := hC.uniq m3 m4 (m2.trans m5.symm)
        subst this
        rfl
    | none =>
      cases hf : l.find? (hitR e) with
      | some y =>
        have m4 := List.mem_of_find?_eq_some hf
        have m5 := hit_key.1 (List.find?_some hf)
        exact absurd m5 (look_idx0 hlk y ((seg_mem hC _).2 ⟨m4, key_cmp m5⟩))
      | none =>
        dsimp only
        rw [hany, place_at hC]
  · rfl
theorem putR_coll {l : List EvD} (hC : Coll l) (e : EvD) : Coll (putR l e).1 := by
  unfold putR
  cases h : (evS e != 0)
  · simp only [cond_false]
    cases hf : l.find? (hitR e) with
    | some x => dsimp only; cases sameE x e <;> exact hC
    | none =>
      dsimp only
      cases ha : (l.any fun x => one x e && contra x e)
      · simp only [cond_false]
        by_cases hn : l.length ≥ 4096
        · simp only [hn, decide_true, cond_true]; exact hC
        · simp only [hn, decide_false, cond_false]
          have hct : ∀ x ∈ l, one x e = true → contra x e = false := fun x hx ho => by
            have := List.any_eq_false.1 ha x hx
            simpa [ho] using this
          have hnk : ∀ x ∈ l, keyE x ≠ keyE e := fun x hx hk => by
            have := List.find?_eq_none.1 hf x hx
            exact this (hit_key.2 hk)
          have htk : l.take (atR l e) = l.takeWhile fun x => bef x e := by
            conv => lhs; arg 2; rw [← List.takeWhile_append_dropWhile (p := fun x => bef x e) (l := l)]
            rw [atR, List.take_left]
          have hdr : l.drop (atR l e) = l.dropWhile fun x => bef x e := by
            conv => lhs; arg 2; rw [← List.takeWhile_append_dropWhile (p := fun x => bef x e) (l := l)]
            rw [atR, List.drop_left]
          have hlo : ∀ x ∈ l.take (atR l e), bef x e = true := fun x hx => by
            rw [htk] at hx; exact List.all_eq_true.1 List.all_takeWhile x hx
          have hhi : ∀ x ∈ l.drop (atR l e), bef x e = false := fun x hx => by
            have hx2 := hx
            have hl : l = l.take (atR l e) ++ l.drop (atR l e) := (List.take_append_drop _ _).symm
            rw [hdr] at hx
            have hp := hC.ord
            have hd : (l.dropWhile fun x => bef x e).Pairwise good2 := hp.sublist (List.dropWhile_sublist _)
            cases hq : l.dropWhile (fun x => bef x e) with
            | nil => rw [hq] at hx; simp at hx
            | cons y ys =>
              have hy : bef y e = false := by
                have := List.head?_dropWhile_not (fun x => bef x e) l
                rw [hq] at this
                simpa using this
              rw [hq] at hx hd
              rcases List.mem_cons.1 hx with rfl | hx
              · exact hy
              · rw [List.pairwise_cons] at hd
                rw [Bool.eq_false_iff]
                intro hb
                rw [bef_trans (hd.1 x hx).1 hb] at hy
                cases hy
          have hhi2 : ∀ x ∈ l.drop (atR l e), bef e x = true := fun x hx => by
            rcases bef_tri x e with h | h | h
            · rw [hhi x hx] at h; cases h
            · exact h
            · exact absurd h (hnk x (List.mem_of_mem_drop hx))
          refine ⟨fun x hx => ?_, ?_, ?_⟩
          · simp only [List.mem_append, List.mem_singleton] at hx
            rcases hx with (hx | rfl) | hx
            · exact hC.ok x (List.mem_of_mem_take hx)
            · simpa using h
            · exact hC.ok x (List.mem_of_mem_drop hx)
          · rw [List.append_assoc, List.pairwise_append]
            refine ⟨hC.ord.sublist (List.take_sublist _ _), ?_, fun a ha b hb => ?_⟩
            · rw [List.singleton_append, List.pairwise_cons]
              refine ⟨fun x hx => ⟨hhi2 x hx, fun ho => ?_⟩, hC.ord.sublist (List.drop_sublist _ _)⟩
              rw [contra_comm]; exact hct x (List.mem_of_mem_drop hx) (by rw [one_comm]; exact ho)
            · simp only [List.singleton_append, List.mem_cons] at hb
              rcases hb with rfl | hb
              · exact ⟨hlo a ha, fun ho => hct a (List.mem_of_mem_take ha) ho⟩
              · have hp := hC.ord
                rw [← List.take_append_drop (atR l e) l, List.pairwise_append] at hp
                exact hp.2.2 a ha b hb
          · simp; omega
      · exact hC
  · exact hC
end Go.Proofs.YteocedfakgdckaaDoor
namespace Go.Proofs.YteocedfakgdckaaDoor
set_option linter.all false
open Go.Idl
set_option maxHeartbeats 4000000
set_option maxRecDepth 100000
attribute [local go_sem] Tryd.underlying3 Tryd.underlying148 Tryd.underlying9 Tryd.underlying4 agKey
theorem low_keys (n : Nat) (l : List (List ByteArray)) : (l.map Cod.enc).all (V.low n) = true := by
  simp only [List.all_map, List.all_eq_true]
  intro x _
  rfl
def grt (a : List EvD) : Int := a.foldl (fun g e => max g e.seq) (-1)
def endE (a : List EvD) : Bool := a.any fun e => e.kind == 3
def nums (p : Nat → Bool) (n : Nat) : List Int := ((List.range n).filter p).map Int.ofNat
def pI (seg : List EvD) (x y : ByteArray) (n : Nat) : Bool := (lookM (idxE seg) (⟨x, y, (n : Int)⟩ : KeyD)).isNone
theorem nums_succ (p : Nat → Bool) (n : Nat) : nums p (n + 1) = nums p n ++ (bif p n then [(n : Int)] else []) := by
  simp only [nums, List.range_succ, List.filter_append, List.map_append]
  cases h : p n <;> simp [h]
theorem nums_take (p : Nat → Bool) {n m : Nat} (h : n ≤ m) : (nums p m).take (nums p n).length = nums p n := by
  obtain ⟨k, rfl⟩ : ∃ k, m = n + k := ⟨m - n, by omega⟩
  induction k with
  | zero => simp
  | succ k ih =>
    rw [← Nat.add_assoc, nums_succ, List.take_append_of_le_length, ih (by omega)]
    have : ∀ k, (nums p n).length ≤ (nums p (n + k)).length := fun k => by
      induction k with
      | zero => simp
      | succ k ih => rw [← Nat.add_assoc, nums_succ]; simp; omega
    exact this k
abbrev SMissI : List V → Option V := FT fun (t : List EvD × ByteArray × ByteArray × Unit) => if colS t.1 = 0 then some ((nums (pI (segB t.1 (kAt t.2.1 t.2.2.1)) t.2.1 t.2.2.1) (grt (segB t.1 (kAt t.2.1 t.2.2.1))).toNat).take 256, endE (segB t.1 (kAt t.2.1 t.2.2.1))) else none
theorem low_ints (n : Nat) (l : List Int) : (l.map Cod.enc).all (V.low n) = true := by
  simp only [List.all_map, List.all_eq_true]
  intro x _
  rfl
theorem isF_ints (l : List Int) : (l.map Cod.enc).all V.isF = true := by
  simp only [List.all_map, List.all_eq_true]
  intro x _
  rfl
theorem ev_seq {e : EvD} (h : evS e = 0) : 0 ≤ e.seq ∧ e.seq ≤ 2147483647 := by
  unfold evS at h
  cases h1 : (!okName e.station || !okName e.txn)
  · cases h2 : (!numsS e)
    · simp [numsS, inR] at h2; omega
    · simp [h1, h2] at h
  · simp [h1] at h
theorem grt_app (a : List EvD) (e : EvD) : grt (a ++ [e]) = max (grt a) e.seq := by simp [grt]
theorem endE_app (a : List EvD) (e : EvD) : endE (a ++ [e]) = (endE a || e.kind == 3) := by simp [endE]
theorem grt_bnd {a : List EvD} (h : ∀ e ∈ a, 0 ≤ e.seq ∧ e.seq ≤ 2147483647) : -1 ≤ grt a ∧ grt a ≤ 2147483647 := by
  have : ∀ (a : List EvD) (g : Int), (∀ e ∈ a, 0 ≤ e.seq ∧ e.seq ≤ 2147483647) → -1 ≤ g ∧ g ≤ 2147483647 → -1 ≤ a.foldl (fun g e => max g e.seq) g ∧ a.foldl (fun g e => max g e.seq) g ≤ 2147483647 := by
    intro a
    induction a with
    | nil => intro g _ h; exact h
    | cons e a ih =>
      intro g h hg
      have := h e (by simp)
      exact ih _ (fun x hx => h x (by simp [hx])) (by dsimp only; omega)
  exact this a (-1) h (by omega)
theorem con29 {Φ : Specs} (hg : Idl.Good Tryd.prog Φ) (h57 : Φ 57 = some SBounds) (h58 : Φ 58 = some SIndex) : Contract Tryd.prog 29 SMissI := by
  refine conT hg k29 ic29 (by decide) fun C t r h => ?_
  obtain ⟨l, x, y, u⟩ := t
  dsimp only at h
  split at h
  · rename_i hl
    have hC := colS_ok.1 hl
    have hlen := hC.len
    cases h
    obtain ⟨t1, t2⟩ := toB_le l (kAt x y)
    have hsl : List.drop (fromB l (kAt x y)) (List.take (toB l (kAt x y)) (List.map Cod.enc l)) = (segB l (kAt x y)).map Cod.enc := by rw [segB, List.map_drop, List.map_take]
    have hsg : (segB l (kAt x y)).length ≤ 1000000 := by simp [segB]; omega
    have hseq : ∀ e ∈ segB l (kAt x y), 0 ≤ e.seq ∧ e.seq ≤ 2147483647 := fun e he => ev_seq (hC.ok e (segB_mem he))
    simp +contextual only [go_sem, ↓reduceIte, Nat.reduceEqDiff, Nat.reduceAdd, Nat.reduceLeDiff, Nat.reduceLT, reduceCtorEq, c29, k29, List.length_map, h57, hl, Int.natCast_nonneg, Int.toNat_natCast, t1, t2, hsl, true_and, and_true, Option.map_none, Option.map_some]
    refine TriI.loopL hg k29 (segB l (kAt x y)) (fun i (a : List EvD) => ⟨slotsL [(0, Cod.enc l), (1, .sc (.string x)), (2, .sc (.string y)), (8, .sc (.int .i64 (fromB l (kAt x y) : Nat))), (9, .sc (.int .i64 (toB l (kAt x y) : Nat))), (10, .sc (.int .i64 (grt a))), (11, .sc (.bool (endE a))), (29, Cod.enc (segB l (kAt x y))), (30, .sc (.int .i64 (segB l (kAt x y)).length)), (31, .sc (.int .i64 i))], objsL [], 0⟩)
      (fun xs a => segB l (kAt x y) = a ++ xs) [] (.back rfl ?_) rfl ?_ ?_
    · simp +contextual only [go_sem, ↓reduceIte, Nat.reduceEqDiff, Nat.reduceAdd, Nat.reduceLeDiff, Nat.reduceLT, reduceCtorEq, List.length_map]
      exact ⟨rfl, rfl, rfl⟩
    · intro a hinv
      rw [List.append_nil] at hinv
      subst hinv
      simp +contextual only [go_sem, ↓reduceIte, Nat.reduceEqDiff, Nat.reduceAdd, Nat.reduceLeDiff, Nat.reduceLT, reduceCtorEq, k29, Int.lt_irrefl, decide_false, List.length_map, h58, hsl, hsg, Int.natCast_nonneg, Int.toNat_natCast, t1, t2, true_and, and_true, Option.map_none, Option.map_some]
      generalize hseg : segB l (kAt x y) = seg at *
      have hgb := grt_bnd hseq
      refine TriI.loopA hg k29 (fun n : Nat => ⟨slotsL [(1, .sc (.string x)), (2, .sc (.string y)), (10, .sc (.int .i64 (grt seg))), (11, .sc (.bool (endE seg))), (14, Cod.enc (⟨some (idxE seg)⟩ : KM KeyD EvD)), (15, .own 0 0 (nums (pI seg x y) n).length), (16, .sc (.int .i64 (n : Nat)))], objsL [.live 1 ((nums (pI seg x y) n).map Cod.enc) true], 1⟩)
        (fun n => n ≤ (grt seg).toNat ∧ (nums (pI seg x y) n).length ≤ 256) (fun n => (grt seg).toNat - n) 0 (.ren [none] rfl rfl 0 ?_) ⟨by omega, by simp [nums]⟩ ?_
      · simp +contextual only [go_sem, ↓reduceIte, Nat.reduceEqDiff, Nat.reduceAdd, Nat.reduceLeDiff, Nat.reduceLT, reduceCtorEq, nums, List.range_zero, List.filter_nil, List.map_nil, List.length_nil]
        rfl
      · rintro n ⟨n1, n2⟩
        by_cases hc : n < (grt seg).toNat ∧ (nums (pI seg x y) n).length < 256
        · have hd1 : decide ((n : Int) < grt seg) = true := by simp; omega
          have hd2 : decide (((nums (pI seg x y) n).length : Int) < 256) = true := by simp; omega
          have hw : IntKind.i64.wrap ((n : Int) + 1) = ((n + 1 : Nat) : Int) := by rw [IntKind.wrap_i64]; omega
          have b1 : ((nums (pI seg x y) n).length + 1) * 8 ≤ 68719476736 := by omega
          have b2 : (nums (pI seg x y) n).length + 1 ≤ 4294967296 := by omega
          have hns := nums_succ (pI seg x y) n
          cases hlk : lookM (idxE seg) (⟨x, y, (n : Int)⟩ : KeyD) with
          | none =>
            have hp : pI seg x y n = true := by simp [pI, hlk]
            rw [hp] at hns
            simp +contextual only [go_sem, ↓reduceIte, Nat.reduceEqDiff, Nat.reduceAdd, Nat.reduceLeDiff, Nat.reduceLT, reduceCtorEq, k29, hd1, hd2, hw, hlk, b1, b2, List.length_map, List.drop_zero, Nat.zero_add, true_and, and_true, okE]
            simp only [cond_true] at hns
            refine ⟨n + 1, by dsimp only; omega, ⟨by omega, by rw [hns]; simp; omega⟩, .ren [some 4] rfl rfl 0 ?_⟩
            simp +contextual only [go_sem, ↓reduceIte, Nat.reduceEqDiff, Nat.reduceAdd, Nat.reduceLeDiff, Nat.reduceLT, reduceCtorEq, hns, List.map_append, List.map_cons, List.map_nil, List.length_append, List.length_cons, List.length_nil, List.all_append, low_ints, low_vals, Nat.zero_add]
          | some e =>
            have hp : pI seg x y n = false := by simp [pI, hlk]
            rw [hp] at hns
            simp +contextual only [go_sem, ↓reduceIte, Nat.reduceEqDiff, Nat.reduceAdd, Nat.reduceLeDiff, Nat.reduceLT, reduceCtorEq, k29, hd1, hd2, hw, hlk]
            simp only [cond_false, List.append_nil] at hns
            refine ⟨n + 1, by dsimp only; omega, ⟨by omega, by rw [hns]; omega⟩, .back rfl ?_⟩
            simp +contextual only [go_sem, ↓reduceIte, Nat.reduceEqDiff, Nat.reduceAdd, Nat.reduceLeDiff, Nat.reduceLT, reduceCtorEq, hns, low_ints, low_vals]
        · by_cases hn : n < (grt seg).toNat
          · have hd1 : decide ((n : Int) < grt seg) = true := by simp; omega
            have hd2 : decide (((nums (pI seg x y) n).length : Int) < 256) = false := by simp; omega
            have hr : nums (pI seg x y) n = List.take 256 (nums (pI seg x y) (grt seg).toNat) := by
              have h1 := nums_take (pI seg x y) n1
              rw [show (nums (pI seg x y) n).length = 256 by omega] at h1
              exact h1.symm
            have hz : (nums (pI seg x y) n).length ≤ (nums (pI seg x y) n).length ∧ ((nums (pI seg x y) n).map Cod.enc).all V.isF = true := ⟨by omega, isF_ints _⟩
            have htk : List.take (nums (pI seg x y) n).length ((nums (pI seg x y) n).map Cod.enc) = (nums (pI seg x y) n).map (Cod.enc : Int → V) := List.take_of_length_le (by simp)
            simp +contextual only [go_sem, ↓reduceIte, Nat.reduceEqDiff, Nat.reduceAdd, Nat.reduceLeDiff, Nat.reduceLT, reduceCtorEq, k29, hd1, hd2, List.length_map, Nat.zero_add, hz, htk, and_self]
            rw [← hr]
          · have hd1 : decide ((n : Int) < grt seg) = false := by simp; omega
            have e : n = (grt seg).toNat := by omega
            have hr : nums (pI seg x y) n = List.take 256 (nums (pI seg x y) (grt seg).toNat) := by
              rw [← e, List.take_of_length_le n2]
            have hz : (nums (pI seg x y) n).length ≤ (nums (pI seg x y) n).length ∧ ((nums (pI seg x y) n).map Cod.enc).all V.isF = true := ⟨by omega, isF_ints _⟩
            have htk : List.take (nums (pI seg x y) n).length ((nums (pI seg x y) n).map Cod.enc) = (nums (pI seg x y) n).map (Cod.enc : Int → V) := List.take_of_length_le (by simp)
            simp +contextual only [go_sem, ↓reduceIte, Nat.reduceEqDiff, Nat.reduceAdd, Nat.reduceLeDiff, Nat.reduceLT, reduceCtorEq, k29, hd1, List.length_map, Nat.zero_add, hz, htk, and_self]
            rw [← hr]
    · intro i a e xs hd hlt hx hinv
      have hw := wrap_nat hlt (by omega)
      simp +contextual only [go_sem, ↓reduceIte, Nat.reduceEqDiff, Nat.reduceAdd, Nat.reduceLeDiff, Nat.reduceLT, reduceCtorEq, k29, lt_dec hlt, hx, hw, List.length_map, List.getElem?_map, Option.map_some, Int.natCast_nonneg, Int.toNat_natCast]
      refine ⟨a ++ [e], by rw [hinv]; simp, .back rfl ?_⟩
      simp +contextual only [go_sem, ↓reduceIte, Nat.reduceEqDiff, Nat.reduceAdd, Nat.reduceLeDiff, Nat.reduceLT, reduceCtorEq, grt_app, endE_app]
  · cases h
end Go.Proofs.YteocedfakgdckaaDoor
