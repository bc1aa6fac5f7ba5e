/- Putting an event into a collection. -/
import Derived.Test.YtnafhnnhhdmnfaaPut36
import Derived.Test.YtnafhnnhhdmnfaaSame36
namespace Go.Proofs.Ytnafhnnhhdmnfaa
set_option linter.all false
open Go.Idl
set_option maxHeartbeats 4000000
set_option maxRecDepth 100000
attribute [local go_sem] Try.underlying3 Try.underlying75 Try.underlying9 Try.underlying4 agKey

theorem idM_mapf (ks : List Value) (vs : List V) : idM (.mapf ks vs) = [] := rfl
theorem extH_upd (H0 : Heap) (n : Nat) (x : Idl.Obj) (O : List Idl.Obj) : updH (extH H0 n O) n x = extH H0 n (x :: O.drop 1) := by
  funext id
  unfold updH extH
  by_cases h1 : id = n
  · subst h1; simp [objsL]
  · by_cases h2 : id < n
    · simp [h1, h2]
    · obtain ⟨k, rfl⟩ : ∃ k, id = n + (k + 1) := ⟨id - n - 1, by omega⟩
      cases O with
      | nil => simp [h1, h2, objsL]
      | cons y O => simp [h1, h2, objsL]
def setO : List Idl.Obj → Nat → Idl.Obj → List Idl.Obj
  | [], 0, x => [x]
  | [], k + 1, x => .unborn :: setO [] k x
  | _ :: O, 0, x => x :: O
  | y :: O, k + 1, x => y :: setO O k x
theorem setO_len : ∀ (O : List Idl.Obj) (k : Nat) (x : Idl.Obj) (id : Nat), objsL (setO O k x) id = if id = k then x else objsL O id
  | [], 0, x, id => by cases id <;> simp [setO, objsL]
  | [], k + 1, x, id => by
    cases id with
    | zero => simp [setO, objsL]
    | succ id => simp only [setO, objsL, setO_len [] k x id]; simp
  | _ :: O, 0, x, id => by cases id <;> simp [setO, objsL]
  | y :: O, k + 1, x, id => by
    cases id with
    | zero => simp [setO, objsL]
    | succ id => simp only [setO, objsL, setO_len O k x id]; simp
theorem updH_objs (O : List Idl.Obj) (k : Nat) (x : Idl.Obj) : updH (objsL O) k x = objsL (setO O k x) := by
  funext id
  rw [setO_len]; rfl
theorem extH_objs {H0 : Heap} {n : Nat} {O0 O : List Idl.Obj} (hn : O0.length = n) (h : ∀ id, id < n → H0 id = objsL O0 id) : extH H0 n O = objsL (O0 ++ O) := by
  funext id
  unfold extH
  have ha : ∀ (O0 : List Idl.Obj) (id : Nat), objsL (O0 ++ O) id = if id < O0.length then objsL O0 id else objsL O (id - O0.length) := fun O0 => by
    induction O0 with
    | nil => intro id; simp
    | cons y O0 ih =>
      intro id
      cases id with
      | zero => simp [objsL]
      | succ id => simp [objsL, ih id]
  rw [ha, hn]
  split
  · rename_i hid; exact h id hid
  · rfl
theorem objsL_low {n : Nat} : ∀ {O : List Idl.Obj}, O.all (Obj.low n) = true → ∀ id, id < n → (objsL O id).low n = true
  | [], _, id, _ => rfl
  | y :: O, h, 0, _ => by simp at h; exact h.1
  | y :: O, h, id + 1, hid => by
    simp only [List.all_cons, Bool.and_eq_true] at h
    exact objsL_low (O := O) h.2 id (by omega)
theorem ev_rds_ne {e : EvD} (h : evS e = 0) : e.rds ≠ [] := by
  intro e0
  unfold evS at h
  cases h1 : (!okName e.station || !okName e.txn)
  · cases h2 : (!numsS e)
    · cases h3 : (kindS e != 0)
      · simp only [h1, h2, h3, cond_false] at h
        unfold rdsS at h
        rw [e0] at h
        simp at h
      · simp only [h1, h2, h3, cond_false, cond_true] at h
        rw [h] at h3
        simp at h3
    · simp [h1, h2] at h
  · simp [h1] at h
theorem nRds_le {l : List EvD} (h : ∀ e ∈ l, evS e = 0) : nRds l ≤ 16 * l.length := by
  induction l with
  | nil => simp [nRds]
  | cons a l ih =>
    have h1 := ev_rds (h a (by simp))
    have h2 := ih fun e he => h e (by simp [he])
    simp only [nRds, List.map_cons, List.sum_cons, List.length_cons] at h2 ⊢
    omega
/-- A copy, where the objects are listed. -/
theorem cto37 {Φ : Specs} (hg : Idl.Good Try.prog Φ) {C : Ctx} {O O' : List Idl.Obj} {r n : Nat} {es l : List EvD} {τ : Nat → V} {K : V → SF → Prop} (hn : O.length = n) (hr : r < n) (hO : objsL O r = .live 10 (es.map Cod.enc) true) (hO' : O.set r .dead = O') (hH0 : O.all (Obj.low n) = true)
    (hlen : es.length + l.length ≤ 10000) (hl : ∀ x ∈ l, evS x = 0) (hlow : LowC C n) (hτ : LowT n τ)
    (hk : ∀ τ' (rd : List Rdg) mu, K (.own n 0 (es.length + l.length)) ⟨τ', objsL (O' ++ [.live 10 ((es ++ l).map Cod.enc) true, .live 2 (rd.map Cod.enc) mu]), n + 2⟩) :
    CallT Try.prog C 37 [.own r 0 es.length, .slice 10 (l.map Cod.enc)] ⟨τ, objsL O, n⟩ K := by
  have hset : ∀ (O : List Idl.Obj) (r : Nat) (x : Idl.Obj) (id : Nat), id < O.length → objsL (O.set r x) id = if id = r then x else objsL O id := by
    intro O
    induction O with
    | nil => intro r x id h; simp at h
    | cons y O ih =>
      intro r x id h
      cases r with
      | zero => cases id <;> simp [objsL]
      | succ r =>
        cases id with
        | zero => simp [objsL]
        | succ id => simp only [List.set_cons_succ, objsL]; rw [ih r x id (by simpa using h)]; simp
  refine ct37 hg hr hO (objsL_low hH0) (fun k => objsL_out (by omega)) (by omega) ?_ (fun x hx => ev_rds_ne (hl x hx)) hlow hτ fun τ' rd mu => ?_
  · have := nRds_le hl
    omega
  · rw [extH_objs (O0 := O') (by rw [← hO', List.length_set, hn]) fun id hid => by
      rw [← hO', hset O r .dead id (by omega)]; rfl]
    exact hk τ' rd mu
/-- A slice handed on, fixed. -/
theorem callT_fix {P : Program} {C : Ctx} {f : FuncId} {a : V} {id sz : Nat} {es : List V} {τ : Nat → V} {H : Heap} {n : Nat} {K : V → SF → Prop} (hl : H id = .live sz es true) (hf : es.all V.isF = true)
    (h : CallT P C f [a, .slice sz es] ⟨τ, updH H id (.live sz es false), n⟩ K) : CallT P C f [a, .own id 0 es.length] ⟨τ, H, n⟩ K := by
  refine ⟨h.1, fun tm w γ I args hS hlen hr => ?_⟩
  obtain ⟨I', hI, hS'⟩ := hS.freezeOne hl hf
  refine h.2 tm w γ I' args hS' hlen fun j x u hx hu => ?_
  match j with
  | 0 => exact (hr 0 x u hx hu).mono (Pres.refl I w) hI fun _ _ h => h
  | 1 =>
    cases hx
    have h1 := (hr 1 (.own id 0 es.length) u rfl hu).mono (Pres.refl I w) hI fun _ _ h => h
    have h2 := own_frozen hS' (id := id) (sz := sz) (es := es) (by simp [updH]) (by simp) h1
    simp only [List.drop_zero, List.take_length] at h2
    exact h2.mono (Pres.refl I' w) (fun _ _ h => h) fun id p hp => by simp [noPlaces] at hp
  | j + 2 => simp at hx
theorem look_fold (l : List EvD) (k : KeyD) : ∀ (m : List (KeyD × EvD)), (∀ x, lookM (l.foldl (fun m e => putM m (keyE e) e) m) k = some x → (x ∈ l ∧ keyE x = k) ∨ (lookM m k = some x ∧ ∀ y ∈ l, keyE y ≠ k)) ∧
    (lookM (l.foldl (fun m e => putM m (keyE e) e) m) k = none → lookM m k = none ∧ ∀ y ∈ l, keyE y ≠ k) := by
  induction l with
  | nil => intro m; exact ⟨fun x h => .inr ⟨h, by simp⟩, fun h => ⟨h, by simp⟩⟩
  | cons a l ih =>
    intro m
    obtain ⟨h1, h2⟩ := ih (putM m (keyE a) a)
    simp only [List.foldl_cons]
    rw [lookM_put] at h1 h2
    refine ⟨fun x hx => ?_, fun hx => ?_⟩
    · rcases h1 x hx with ⟨q1, q2⟩ | ⟨q1, q2⟩
      · exact .inl ⟨by simp [q1], q2⟩
      · split at q1
        · rename_i e
          cases q1
          exact .inl ⟨by simp, e.symm⟩
        · rename_i e
          exact .inr ⟨q1, fun y hy => by
            rcases List.mem_cons.1 hy with rfl | hy
            · exact fun h => e h.symm
            · exact q2 y hy⟩
    · obtain ⟨q1, q2⟩ := h2 hx
      split at q1
      · cases q1
      · rename_i e
        exact ⟨q1, fun y hy => by
            rcases List.mem_cons.1 hy with rfl | hy
            · exact fun h => e h.symm
            · exact q2 y hy⟩
theorem look_idx {l : List EvD} {k : KeyD} {x : EvD} (h : lookM (idxE l) k = some x) : x ∈ l ∧ keyE x = k := by
  rcases (look_fold l k []).1 x h with h | ⟨h, _⟩
  · exact h
  · cases h
theorem look_idx0 {l : List EvD} {k : KeyD} (h : lookM (idxE l) k = none) : ∀ y ∈ l, keyE y ≠ k := ((look_fold l k []).2 h).2
def segB (l : List EvD) (k : KeyD) : List EvD := (l.take (toB l k)).drop (fromB l k)
def cntB (l : List EvD) (e : EvD) : Nat := (l.filter fun x => decide (x.seq < e.seq)).length
def placeB (l : List EvD) (e : EvD) : Nat := fromB l (kAt e.station e.txn) + cntB (segB l (kAt e.station e.txn)) e
def putS (l : List EvD) (e : EvD) : List EvD × Int :=
  bif evS e != 0 then (l, evS e) else match lookM (idxE (segB l (kAt e.station e.txn))) (keyE e) with
  | some x => bif sameE x e then (l, 9) else (l, 23)
  | none => bif (segB l (kAt e.station e.txn)).any (fun x => contra x e) then (l, 1) else bif decide (l.length ≥ 4096) then (l, 3)
    else (l.take (placeB l e) ++ [e] ++ l.drop (placeB l e), 0)
abbrev SPut : List V → Option V := FT fun (t : List EvD × EvD × Unit) => if colS t.1 = 0 then some (putS t.1 t.2.1) else none
theorem toB_le (l : List EvD) (k : KeyD) : fromB l k ≤ toB l k ∧ toB l k ≤ l.length := by
  have h1 := (takeW (lessK k) l).1
  have h2 := (takeW (sameK k) (l.drop (fromB l k))).1
  simp only [List.length_drop] at h2
  unfold toB fromB at *
  omega
theorem con13 {Φ : Specs} (hg : Idl.Good Try.prog Φ) (h26 : Φ 26 = some SEv) (h34 : Φ 34 = some SBounds) (h35 : Φ 35 = some SIndex) (h28 : Φ 28 = some SKey) (h36 : Φ 36 = some SSame) (h30 : Φ 30 = some SContra) (h37 : Φ 37 = none) :
    Contract Try.prog 13 SPut := by
  refine conT hg k13 ic13 (by decide) fun C t r h => ?_
  obtain ⟨l, e, u⟩ := t
  dsimp only at h
  split at h
  · rename_i hl
    have hC := colS_ok.1 hl
    cases h
    have hlen := hC.len
    obtain ⟨t1, t2⟩ := toB_le l (kAt e.station e.txn)
    have hsl : List.drop (fromB l (kAt e.station e.txn)) (List.take (toB l (kAt e.station e.txn)) (List.map Cod.enc l)) = (segB l (kAt e.station e.txn)).map Cod.enc := by rw [segB, List.map_drop, List.map_take]
    have hsg : (segB l (kAt e.station e.txn)).length ≤ 1000000 := by simp [segB]; omega
    cases hlk : lookM (idxE (segB l (kAt e.station e.txn))) (keyE e) with
    | some x =>
      have hlk' : lookM (idxE (segB l (kAt e.station e.txn))) ⟨e.station, e.txn, e.seq⟩ = some x := hlk
      have hx : x.rds.length ≤ 1000000 := by
        have := ev_rds (hC.ok x (List.mem_of_mem_take (List.mem_of_mem_drop (look_idx hlk).1)))
        omega
      simp +contextual only [go_sem, ↓reduceIte, Nat.reduceEqDiff, Nat.reduceAdd, Nat.reduceLeDiff, Nat.reduceLT, reduceCtorEq, c13, k13, List.length_map, h26, h34, hl, Int.natCast_nonneg, Int.toNat_natCast, t1, t2, hsl, hsg, h35, h28, true_and, and_true, Option.map_none, Option.map_some, hlk, hlk', keyE, h36, hx, idM_mapf]
      have hP : (evS e != 0) = false → putS l e = bif sameE x e then (l, 9) else (l, 23) := fun h => by simp only [putS, h, cond_false, hlk]
      exact ⟨fun h => by simp only [putS, h, cond_true], fun h => ⟨rfl, fun h2 => by rw [hP h, h2]; rfl, fun h2 => by rw [hP h, h2]; rfl⟩⟩
    | none =>
      have hlk' : lookM (idxE (segB l (kAt e.station e.txn))) ⟨e.station, e.txn, e.seq⟩ = none := hlk
      simp +contextual only [go_sem, ↓reduceIte, Nat.reduceEqDiff, Nat.reduceAdd, Nat.reduceLeDiff, Nat.reduceLT, reduceCtorEq, c13, k13, List.length_map, h26, h34, hl, Int.natCast_nonneg, Int.toNat_natCast, t1, t2, hsl, hsg, h35, h28, true_and, and_true, Option.map_none, Option.map_some, hlk, hlk', keyE, idM_mapf]
      refine ⟨fun h => by simp only [putS, h, cond_true], fun h => ⟨rfl, ?_⟩⟩
      have hP : putS l e = bif (segB l (kAt e.station e.txn)).any (fun x => contra x e) then (l, 1) else bif decide (l.length ≥ 4096) then (l, 3)
        else (l.take (placeB l e) ++ [e] ++ l.drop (placeB l e), 0) := by simp only [putS, h, cond_false, hlk]
      have hS : segB l (kAt e.station e.txn) = segB l (kAt e.station e.txn) := rfl
      generalize hseg : segB l (kAt e.station e.txn) = seg at hS hP hsg hsl hlk hlk'
      have hpl : placeB l e = fromB l (kAt e.station e.txn) + cntB seg e := by rw [placeB, hseg]
      have hpl2 : placeB l e ≤ l.length := by
        have : cntB seg e ≤ seg.length := List.length_filter_le _ _
        have h2 : seg.length ≤ toB l (kAt e.station e.txn) - fromB l (kAt e.station e.txn) := by rw [← hseg]; simp [segB]; omega
        omega
      refine TriI.loopL hg k13 seg (fun i (a : Nat) => ⟨slotsL [(0, Cod.enc l), (3, .ref 0 0 0), (11, .sc (.int .i64 ((fromB l (kAt e.station e.txn) + a : Nat) : Int))), (51, Cod.enc seg), (52, .sc (.int .i64 seg.length)), (53, .sc (.int .i64 i))], objsL [.live 10 [Cod.enc e] true], 1⟩)
        (fun xs a => a + cntB xs e = cntB seg e ∧ (seg.any fun x => contra x e) = (xs.any fun x => contra x e)) 0 (.back rfl ?_) ⟨by simp, rfl⟩ ?_ ?_
      · simp +contextual only [go_sem, ↓reduceIte, Nat.reduceEqDiff, Nat.reduceAdd, Nat.reduceLeDiff, Nat.reduceLT, reduceCtorEq, List.length_map]
        exact ⟨rfl, rfl⟩
      · rintro a ⟨i1, i2⟩
        have ha : a = cntB seg e := by simpa [cntB] using i1
        subst ha
        rw [← hpl]
        rw [i2] at hP
        have w1 : IntKind.i64.wrap ((l.length : Int) + 1) = ((l.length + 1 : Nat) : Int) := by rw [IntKind.wrap_i64]; omega
        have b1 : 120 * (l.length + 1) ≤ 281474976710656 := by omega
        have b2 : ((l.length + 1 : Nat) : Int) ≤ 4294967296 := by omega
        have b3 : (0 : Int) ≤ ((l.length + 1 : Nat) : Int) := by omega
        simp +contextual only [go_sem, ↓reduceIte, Nat.reduceEqDiff, Nat.reduceAdd, Nat.reduceLeDiff, Nat.reduceLT, reduceCtorEq, k13, Int.lt_irrefl, decide_false, List.length_map, w1, b1, b2, b3, Int.le_refl, true_and, and_true, Int.toNat_natCast, List.replicate_zero, Int.toNat_zero, Int.natCast_nonneg, hpl2, Nat.zero_le, List.drop_zero, h37, Option.map_none, Option.map_some]
        refine ⟨fun h4 => ?_, fun h4 => ?_⟩
        · have : decide (l.length ≥ 4096) = true := by simp at h4 ⊢; omega
          rw [hP, this]; rfl
        · have h4' : decide (l.length ≥ 4096) = false := by simp at h4 ⊢; omega
          rw [h4'] at hP
          simp only [List.any_nil, cond_false] at hP
          have hev : evS e = 0 := by simpa using h
          have hn1 := nRds_le hC.ok
          rw [← List.map_take]
          rw [updH_objs]
          refine cto37 (O := [_, _]) (es := []) (l := l.take (placeB l e)) (r := 1) (n := 2) hg rfl (by omega) rfl rfl rfl (by simp; omega) (fun x hx => hC.ok x (List.mem_of_mem_take hx)) (LowC.top _ _) (by repeat (first | exact LowT.nil | apply LowT.upd | apply LowT.prune | apply LowT.cons | rfl | exact low_evs _ _)) fun τ' rd mu => ?_
          simp +contextual only [go_sem, ↓reduceIte, Nat.reduceEqDiff, Nat.reduceAdd, Nat.reduceLeDiff, Nat.reduceLT, reduceCtorEq, k13, List.length_map, List.cons_append, List.nil_append, h37, List.length_nil, Nat.zero_add]
          refine callT_fix (sz := 10) (es := [Cod.enc e]) rfl rfl ?_
          simp only [updH_objs]
          refine cto37 (O := [_, _, _, _, _]) (es := l.take (placeB l e)) (l := [e]) (r := 2) (n := 5) hg rfl (by omega) rfl rfl ?_ (by simp; omega) (by simpa using hev) (LowC.top _ _) (by repeat (first | exact LowT.nil | apply LowT.upd | apply LowT.prune | apply LowT.cons | rfl | exact low_evs _ _)) fun τ' rd mu => ?_
          · simp only [List.all_cons, List.all_nil, Obj.low, low_evs, low_rds, Bool.and_true, Bool.true_and]; rfl
          have hdl : List.drop (placeB l e) (List.take l.length (List.map Cod.enc l)) = (l.drop (placeB l e)).map Cod.enc := by rw [List.take_of_length_le (by simp), List.map_drop]
          simp +contextual only [go_sem, ↓reduceIte, Nat.reduceEqDiff, Nat.reduceAdd, Nat.reduceLeDiff, Nat.reduceLT, reduceCtorEq, k13, List.length_map, List.cons_append, List.nil_append, h37, List.length_nil, Option.map_none, Option.map_some, Int.natCast_nonneg, Int.toNat_natCast, hpl2, hdl, Nat.le_refl, true_and, and_true]
          rw [show (l.take (placeB l e)).length + 1 = (l.take (placeB l e) ++ [e]).length from by simp]
          refine cto37 (O := [_, _, _, _, _, _, _]) (es := l.take (placeB l e) ++ [e]) (l := l.drop (placeB l e)) (r := 5) (n := 7) hg rfl (by omega) rfl rfl ?_ (by simp; omega) (fun x hx => hC.ok x (List.mem_of_mem_drop hx)) (LowC.top _ _) (by repeat (first | exact LowT.nil | apply LowT.upd | apply LowT.prune | apply LowT.cons | rfl | exact low_evs _ _)) fun τ' rd mu => ?_
          · simp only [List.all_cons, List.all_nil, Obj.low, low_evs, low_rds, Bool.and_true, Bool.true_and]; rfl
          simp +contextual only [go_sem, ↓reduceIte, Nat.reduceEqDiff, Nat.reduceAdd, Nat.reduceLeDiff, Nat.reduceLT, reduceCtorEq, List.cons_append, List.nil_append, List.length_map, List.length_append, Nat.zero_add, Nat.le_refl, isF_evs, true_and, and_true, List.drop_zero, hP]
          rw [List.take_of_length_le (by simp; omega)]
          simp +contextual only [go_sem, ↓reduceIte, Nat.reduceEqDiff, Nat.reduceAdd, Nat.reduceLeDiff, Nat.reduceLT, reduceCtorEq]
      · rintro i a x xs hd hlt hx ⟨i1, i2⟩
        have hw := wrap_nat hlt (by omega)
        have hwp : IntKind.i64.wrap (((fromB l (kAt e.station e.txn) + a : Nat) : Int) + 1) = ((fromB l (kAt e.station e.txn) + (a + 1) : Nat) : Int) := by
          have : cntB seg e ≤ seg.length := List.length_filter_le _ _
          rw [IntKind.wrap_i64]; omega
        simp +contextual only [go_sem, ↓reduceIte, Nat.reduceEqDiff, Nat.reduceAdd, Nat.reduceLeDiff, Nat.reduceLT, reduceCtorEq, k13, lt_dec hlt, hx, hw, hwp, List.length_map, List.getElem?_map, Option.map_some, Int.natCast_nonneg, Int.toNat_natCast, h30]
        refine ⟨fun hc => ?_, fun hc => ⟨fun hs => ⟨a + 1, ⟨?_, ?_⟩, .back rfl ?_⟩, fun hs => ⟨a, ⟨?_, ?_⟩, .back rfl ?_⟩⟩⟩
        · rw [hP, i2]; simp [hc]
        · rw [← i1]; simp [cntB, hs]; omega
        · rw [i2]; simp [hc]
        · simp +contextual only [go_sem, ↓reduceIte, Nat.reduceEqDiff, Nat.reduceAdd, Nat.reduceLeDiff, Nat.reduceLT, reduceCtorEq, hw]
        · rw [← i1]; simp only [decide_eq_false_iff_not] at hs; simp [cntB, hs]
        · rw [i2]; simp [hc]
        · simp +contextual only [go_sem, ↓reduceIte, Nat.reduceEqDiff, Nat.reduceAdd, Nat.reduceLeDiff, Nat.reduceLT, reduceCtorEq, hw]
  · cases h
end Go.Proofs.Ytnafhnnhhdmnfaa
