/- Merging objects into a directory. -/
import Derived.Test.YtalhbhbkdfmhgaaDir45h
namespace Go.Proofs.Ytalhbhbkdfmhgaa
set_option linter.all false
open Go.Idl
set_option maxHeartbeats 4000000
set_option maxRecDepth 100000
attribute [local go_sem] agObj agDir agOK agSh Try.underlying3 Try.underlying5 Try.underlying9
def mgS (c : DirD × Int) (o : ObjD) : DirD × Int := bif !(chkO o == 0) then c else bif decide (o.owner = c.1.party) then c else match lookD c.1 (keyO o) with
  | some old => bif decide (old.object.version ≥ o.version) then c else (storeD c.1 o, c.2 + 1)
  | none => bif decide ((c.1.objects.length : Int) ≥ 256) then c else (storeD c.1 o, c.2 + 1)
def mergeS (d : DirD) (l : List ObjD) : DirD × Int := l.foldl mgS (d, 0)
abbrev SMrg : List V → Option V := FT fun (t : DirD × List ObjD × Unit) => if validDir t.1 = 0 ∧ t.2.1.length ≤ 100000 ∧ t.1.next + t.2.1.length ≤ 4611686018427387904 then some (mergeS t.1 t.2.1) else none
theorem ext_objs2 {a b : Idl.Obj} {O : List Idl.Obj} : extH (updH (updH (fun _ => .unborn) 0 a) 1 b) 2 O = objsL (a :: b :: O) := by
  funext id
  match id with
  | 0 => rfl
  | 1 => rfl
  | id + 2 =>
    show (if id + 2 < 2 then _ else objsL O (id + 2 - 2)) = objsL O id
    rw [if_neg (by omega), Nat.add_sub_cancel]
structure ML where
  d : DirD
  c : Int
  m : List (OKeyD × MarkD)
  n : Nat
  H : Heap
structure MLinv (d : DirD) (l : List ObjD) (xs : List ObjD) (p : ML) : Prop where
  r : Rel p.d p.m
  w : WF p.d
  pa : p.d.party = d.party
  h13 : p.H 13 = .live 2 [shX 7 p.d.next] true
  h7 : p.H 7 = .ext (.map (keysM p.m) (valsM p.m))
  h0 : p.H 0 = .live 4 [Cod.enc d] true
  h1 : p.H 1 = .live 4 [zeroDC] true
  hu : ∀ k, p.H (p.n + k) = .unborn
  hn : 14 ≤ p.n
  ff : xs.foldl mgS (p.d, p.c) = mergeS d l
  nx : p.d.next + xs.length ≤ 4611686018427387904
  c0 : 0 ≤ p.c
  c1 : p.c + xs.length ≤ 100000
theorem MLinv.keep {d d' : DirD} {l xs : List ObjD} {x : ObjD} {c : Int} {m : List (OKeyD × MarkD)} {n n' : Nat} {H H' : Heap} (h : MLinv d l (x :: xs) ⟨d', c, m, n, H⟩) (hs : mgS (d', c) x = (d', c)) (hf : ∀ id, id < n → H' id = H id) (hu : ∀ k, H' (n' + k) = .unborn) (hn : n ≤ n') : MLinv d l xs ⟨d', c, m, n', H'⟩ := by
  obtain ⟨g1, g2, g3, g4, g5, g6, g7, g8, g9, g10, g11, g12, g13⟩ := h
  dsimp only at g1 g2 g3 g4 g5 g6 g7 g8 g9 g10 g11 g12 g13
  rw [List.foldl_cons, hs] at g10
  rw [List.length_cons] at g11 g13
  exact ⟨g1, g2, g3, (hf _ (by omega)).trans g4, (hf _ (by omega)).trans g5, (hf _ (by omega)).trans g6, (hf _ (by omega)).trans g7, hu, by dsimp only; omega, g10, by dsimp only; omega, g12, by dsimp only; omega⟩
theorem MLinv.store {d d' : DirD} {l xs : List ObjD} {x : ObjD} {c : Int} {m : List (OKeyD × MarkD)} {n n' : Nat} {H H' : Heap} (h : MLinv d l (x :: xs) ⟨d', c, m, n, H⟩) (hs : mgS (d', c) x = (storeD d' x, c + 1)) (hx : chkO x = 0) (hr : (lookD d' (keyO x)).isSome = true ∨ d'.objects.length < 256)
    (hf : ∀ id, id < n → id ≠ 13 → id ≠ 7 → H' id = H id) (h13 : H' 13 = .live 2 [shX 7 (d'.next + 1)] true) (h7 : H' 7 = .ext (.map (keysM (putO m (x, d'.next))) (valsM (putO m (x, d'.next))))) (hu : ∀ k, H' (n' + k) = .unborn) (hn : n ≤ n') : MLinv d l xs ⟨storeD d' x, c + 1, putO m (x, d'.next), n', H'⟩ := by
  obtain ⟨g1, g2, g3, g4, g5, g6, g7, g8, g9, g10, g11, g12, g13⟩ := h
  dsimp only at g1 g2 g3 g4 g5 g6 g7 g8 g9 g10 g11 g12 g13
  rw [List.foldl_cons, hs] at g10
  rw [List.length_cons] at g11 g13
  refine ⟨store_rel g1 x, store_wf g2 hx hr (by omega), g3, h13, h7, (hf _ (by omega) (by omega) (by omega)).trans g6, (hf _ (by omega) (by omega) (by omega)).trans g7, hu, by dsimp only; omega, g10, ?_, by dsimp only; omega, by dsimp only; omega⟩
  show d'.next + 1 + xs.length ≤ _
  omega
theorem con42 {Φ : Specs} (hg : Idl.Good Try.prog Φ) (h51 : Φ 51 = some SChk) (h52 : Φ 52 = some SKeyO) (h55 : Φ 55 = some SFre)
    (hop : Φ 56 = none) (hst : Φ 57 = none) (hcl : Φ 58 = none)
    (hsf : Φ 67 = none) (hsort : SortT Try.prog 67 7) (hcmp : Contract Try.prog 68 SCmpM) : Contract Try.prog 42 SMrg := by
  refine conT hg k42 ic42 (by decide) fun C t r h => ?_
  obtain ⟨d, l, u⟩ := t
  dsimp only at h
  split at h
  · rename_i hv
    obtain ⟨hv, hll, hnx⟩ := hv
    have hW := (valid_iff d).1 hv
    cases h
    have hmx := hW.max
    simp +contextual only [go_sem, ↓reduceIte, Nat.reduceEqDiff, Nat.reduceAdd, Nat.reduceLeDiff, Nat.reduceLT, reduceCtorEq, c42, k42, hop, List.length_map]
    refine ct56 (n := 2) hg h52 (fun id hid => ?_) (fun k => ?_) (by omega) hW.len (LowC.top _ _) (by repeat (first | exact LowT.pnil | apply LowT.upd | apply LowT.prune | apply LowT.pcons | rfl)) fun τ' => ?_
    · simp only [updH]; (repeat' split) <;> rfl
    · simp only [updH]; rw [if_neg (by omega), if_neg (by omega)]
    rw [ext_objs2]
    unfold opO
    simp +contextual only [go_sem, ↓reduceIte, Nat.reduceEqDiff, Nat.reduceAdd, Nat.reduceLeDiff, Nat.reduceLT, reduceCtorEq, k42, List.length_map]
    refine TriI.loopL hg k42 l (fun i (p : ML) => ⟨slotsL [(2, .ref 0 0 0), (4, .ref 1 0 0), (6, .ref 13 0 0), (7, .sc (.int .i64 p.c)), (14, Cod.enc l), (15, .sc (.int .i64 l.length)), (16, .sc (.int .i64 i))], p.H, p.n⟩)
      (fun xs p => MLinv d l xs p) ⟨d, 0, openM d, 14, updH (updH (objsL (.live 4 [Cod.enc d] true :: .live 4 [zeroDC] true :: opO 2 d)) 13 (.live 2 [.agg [.sc (.map none), .sc (.int .i64 0)]] true)) 13 (.live 2 [shX 7 d.next] true)⟩ (.slots ?_) ?_ ?_ ?_
    · simp +contextual only [go_sem, ↓reduceIte, Nat.reduceEqDiff, Nat.reduceAdd, Nat.reduceLeDiff, Nat.reduceLT, reduceCtorEq]
      rfl
    · refine ⟨open_rel hW, hW, rfl, rfl, rfl, rfl, rfl, fun k => (updH_ne (by dsimp only; omega)).trans ((updH_ne (by dsimp only; omega)).trans (objsL_out (by simp only [opO, List.length_cons, List.length_nil]; omega))), Nat.le_refl _, rfl, by dsimp only; omega, Int.le_refl _, by dsimp only; omega⟩
    · rintro ⟨d', c, m, n, H⟩ ⟨g1, g2, g3, g4, g5, g6, g7, g8, g9, g10, g11, g12, g13⟩
      dsimp only at g1 g2 g3 g4 g5 g6 g7 g8 g9 g10 g11 g12 g13 ⊢
      simp +contextual only [go_sem, ↓reduceIte, Nat.reduceEqDiff, Nat.reduceAdd, Nat.reduceLeDiff, Nat.reduceLT, reduceCtorEq, k42, Int.lt_irrefl, decide_false, g4, g5, g6, g7, hcl]
      have hmx' := g2.max
      have hml := g1.len g2.len
      refine ct58 (r := 13) (mp := 7) (next := d'.next) (m := m) (S := mks d') hg h55 hsf hsort hcmp (by omega) (by omega) (by omega) g4 g5 g8 (by omega) g1.pm.symm (mks_sorted g2) (mks_data g2) fun τ3 n3 H3 vo vm hD hfr hun3 hge => ?_
      have h3b : H3 1 = .live 4 [zeroDC] true := (hfr 1 (by omega) (by omega)).trans g7
      have hres : mergeS d l = (d', c) := by rw [← g10]; rfl
      rw [hres, ← of_mks g2.len, g3]
      rcases hD with ⟨e0, rfl, rfl⟩ | ⟨oid, mid, rfl, rfl, q8, q9, q10, q11, q12⟩
      · rw [e0]
        simp +contextual only [go_sem, ↓reduceIte, Nat.reduceEqDiff, Nat.reduceAdd, Nat.reduceLeDiff, Nat.reduceLT, reduceCtorEq, k42, h3b]
        rfl
      · have z1 : (oid = 1) = False := by simp; omega
        have z2 : (mid = 1) = False := by simp; omega
        generalize mks d' = S at q8 q9
        have q8' : H3 oid = .live 6 ((S.map (·.object)).map Cod.enc) true := by rw [q8, List.map_map]; rfl
        have q9' : H3 mid = .live 1 ((S.map (·.mark)).map Cod.enc) true := by rw [q9, List.map_map]; rfl
        have t1 : ((S.map (·.object)).map Cod.enc : List V).take S.length = (S.map (·.object)).map Cod.enc := List.take_of_length_le (by simp)
        have t2 : ((S.map (·.mark)).map Cod.enc : List V).take S.length = (S.map (·.mark)).map Cod.enc := List.take_of_length_le (by simp)
        simp +contextual only [go_sem, ↓reduceIte, Nat.reduceEqDiff, Nat.reduceAdd, Nat.reduceLeDiff, Nat.reduceLT, reduceCtorEq, k42, h3b, q8', q9', z1, z2, t1, t2, isF_obs, isF_ints, List.length_map, Nat.zero_add, Nat.le_refl, true_and, and_true, decL_enc Cod.dec_enc]
        trivial
    · intro i p x xs hd hlt hx hinv
      obtain ⟨d', c, m, n, H⟩ := p
      obtain ⟨g1, g2, g3, g4, g5, g6, g7, g8, g9, g10, g11, g12, g13⟩ := hinv
      dsimp only at g1 g2 g3 g4 g5 g6 g7 g8 g9 g10 g11 g12 g13 ⊢
      have hw := wrap_nat hlt (by omega)
      have hn0 : H n = .unborn := g8 0
      have z0 : (13 = n) = False := by simp; omega
      have z1 : (n = 13) = False := by simp; omega
      have z2 : (7 = n) = False := by simp; omega
      have z3 : (n = 7) = False := by simp; omega
      have z4 : (0 = n) = False := by simp; omega
      have z5 : (n = 0) = False := by simp; omega
      have z6 : (1 = n) = False := by simp; omega
      have z7 : ∀ k, (13 = n + k) = False := fun k => by simp; omega
      have z8 : ∀ k, (7 = n + k) = False := fun k => by simp; omega
      have z9 : ∀ k, (0 = n + k) = False := fun k => by simp; omega
      have z10 : ∀ k, (n + k = 13) = False := fun k => by simp; omega
      have z11 : ∀ k, (n + k = 7) = False := fun k => by simp; omega
      have hlk := g1.look g2 (keyO x)
      have hml := g1.len g2.len
      have hI : MLinv d l (x :: xs) ⟨d', c, m, n, H⟩ := ⟨g1, g2, g3, g4, g5, g6, g7, g8, g9, g10, g11, g12, g13⟩
      by_cases h1 : chkO x = 0
      · have e1 : (chkO x == 0) = true := by simpa using h1
        have e1' : (chkO x != 0) = false := by simpa using h1
        cases h2 : decide (x.owner = d.party) with
        | true =>
          have hs : mgS (d', c) x = (d', c) := by simp only [mgS, e1, g3, h2, Bool.not_true, cond_false, cond_true]
          simp +contextual only [go_sem, ↓reduceIte, Nat.reduceEqDiff, Nat.reduceAdd, Nat.reduceLeDiff, Nat.reduceLT, reduceCtorEq, k42, e1', h2, lt_dec hlt, hx, hw, h51, h52, g3, g4, g5, g6, g7, g8, hn0, z0, z1, z2, z3, z4, z5, z6, z7, z8, z9, z10, z11, hst, List.length_map, List.getElem?_map, Option.map_some, Int.natCast_nonneg, Int.toNat_natCast, Nat.add_eq_left, Nat.left_eq_add, Nat.add_assoc]
          refine ⟨⟨d', c, m, n + 2, updH (updH H n (.live 6 [zeroC] true)) n (.live 6 [Cod.enc x] true)⟩, hI.keep hs (fun id hid => (updH_ne (by omega)).trans ((updH_ne (by omega)).trans (rfl))) (fun k => (updH_ne (by omega)).trans ((updH_ne (by omega)).trans ((congrArg H (Nat.add_assoc _ _ _)).trans (g8 _)))) (by omega), .slots ?_⟩
          simp +contextual only [go_sem, ↓reduceIte, Nat.reduceEqDiff, Nat.reduceAdd, Nat.reduceLeDiff, Nat.reduceLT, reduceCtorEq]
        | false =>
          have hs0 : mgS (d', c) x = match lookD d' (keyO x) with
            | some old => bif decide (old.object.version ≥ x.version) then (d', c) else (storeD d' x, c + 1)
            | none => bif decide ((d'.objects.length : Int) ≥ 256) then (d', c) else (storeD d' x, c + 1) := by
            simp only [mgS, e1, g3, h2, Bool.not_true, cond_false]
          cases hL : lookD d' (keyO x) with
          | some old =>
            rw [hL] at hlk hs0
            cases h3 : decide (old.object.version ≥ x.version) with
            | true =>
              have hs : mgS (d', c) x = (d', c) := by rw [hs0]; simp only [h3, cond_true]
              simp +contextual only [go_sem, ↓reduceIte, Nat.reduceEqDiff, Nat.reduceAdd, Nat.reduceLeDiff, Nat.reduceLT, reduceCtorEq, k42, e1', h2, hlk, h3, lt_dec hlt, hx, hw, h51, h52, g3, g4, g5, g6, g7, g8, hn0, z0, z1, z2, z3, z4, z5, z6, z7, z8, z9, z10, z11, hst, List.length_map, List.getElem?_map, Option.map_some, Int.natCast_nonneg, Int.toNat_natCast, Nat.add_eq_left, Nat.left_eq_add, Nat.add_assoc]
              refine ⟨by simp [apartI, apartAll, clash, List.range, List.range.loop, z0, z1, z2, z3, z4, z5, z6, z7, z8, z9, z10, z11]; decide, ⟨d', c, m, n + 13, updH (updH (updH (updH H n (.live 6 [zeroC] true)) n (.live 6 [Cod.enc x] true)) (n + 10) (.live 7 [zeroMC] true)) (n + 10) (.live 7 [Cod.enc old] true)⟩, hI.keep hs (fun id hid => (updH_ne (by omega)).trans ((updH_ne (by omega)).trans ((updH_ne (by omega)).trans ((updH_ne (by omega)).trans (rfl))))) (fun k => (updH_ne (by omega)).trans ((updH_ne (by omega)).trans ((updH_ne (by omega)).trans ((updH_ne (by omega)).trans ((congrArg H (Nat.add_assoc _ _ _)).trans (g8 _)))))) (by omega), .slots ?_⟩
              simp +contextual only [go_sem, ↓reduceIte, Nat.reduceEqDiff, Nat.reduceAdd, Nat.reduceLeDiff, Nat.reduceLT, reduceCtorEq]
            | false =>
              have hs : mgS (d', c) x = (storeD d' x, c + 1) := by rw [hs0]; simp only [h3, cond_false]
              simp +contextual only [go_sem, ↓reduceIte, Nat.reduceEqDiff, Nat.reduceAdd, Nat.reduceLeDiff, Nat.reduceLT, reduceCtorEq, k42, e1', h2, hlk, h3, lt_dec hlt, hx, hw, h51, h52, g3, g4, g5, g6, g7, g8, hn0, z0, z1, z2, z3, z4, z5, z6, z7, z8, z9, z10, z11, hst, List.length_map, List.getElem?_map, Option.map_some, Int.natCast_nonneg, Int.toNat_natCast, Nat.add_eq_left, Nat.left_eq_add, Nat.add_assoc]
              refine ⟨by simp [apartI, apartAll, clash, List.range, List.range.loop, z0, z1, z2, z3, z4, z5, z6, z7, z8, z9, z10, z11]; decide, ?_⟩
              have hwn : IntKind.i64.wrap (d'.next + 1) = d'.next + 1 := by have := g2.n1; simp only [List.length_cons] at g11; rw [IntKind.wrap_i64]; omega
              have hwc : IntKind.i64.wrap (c + 1) = c + 1 := by simp only [List.length_cons] at g13; rw [IntKind.wrap_i64]; omega
              refine ct57 (r := 13) (mp := 7) (next := d'.next) (m := m) hg h52 (by omega) (by omega) (by omega) ((updH_ne (by omega)).trans ((updH_ne (by omega)).trans ((updH_ne (by omega)).trans ((updH_ne (by omega)).trans (g4))))) ((updH_ne (by omega)).trans ((updH_ne (by omega)).trans ((updH_ne (by omega)).trans ((updH_ne (by omega)).trans (g5))))) (fun k => (updH_ne (by omega)).trans ((updH_ne (by omega)).trans ((updH_ne (by omega)).trans ((updH_ne (by omega)).trans ((congrArg H (Nat.add_assoc _ _ _)).trans (g8 _)))))) fun τ2 => ?_
              rw [hwn, hwc]
              refine ⟨⟨storeD d' x, c + 1, putO m (x, d'.next), n + 13 + 15, updH (updH (updH (updH (updH (updH (updH H n (.live 6 [zeroC] true)) n (.live 6 [Cod.enc x] true)) (n + 10) (.live 7 [zeroMC] true)) (n + 10) (.live 7 [Cod.enc old] true)) (n + 13) (.live 6 [Cod.enc x] true)) 7 (.ext (.map (keysM (putO m (x, d'.next))) (valsM (putO m (x, d'.next)))))) 13 (.live 2 [shX 7 (d'.next + 1)] true)⟩, hI.store hs h1 (.inl (by rw [hL]; rfl)) (fun id hid i1 i2 => (updH_ne (by omega)).trans ((updH_ne (by omega)).trans ((updH_ne (by omega)).trans ((updH_ne (by omega)).trans ((updH_ne (by omega)).trans ((updH_ne (by omega)).trans ((updH_ne (by omega)).trans (rfl)))))))) updH_at ((updH_ne (by omega)).trans (updH_at)) (fun k => (updH_ne (by omega)).trans ((updH_ne (by omega)).trans ((updH_ne (by omega)).trans ((updH_ne (by omega)).trans ((updH_ne (by omega)).trans ((updH_ne (by omega)).trans ((updH_ne (by omega)).trans ((congrArg H (by omega)).trans (g8 (k + 28)))))))))) (by omega), .slots ?_⟩
              simp +contextual only [go_sem, ↓reduceIte, Nat.reduceEqDiff, Nat.reduceAdd, Nat.reduceLeDiff, Nat.reduceLT, reduceCtorEq]
          | none =>
            rw [hL] at hlk hs0
            cases h3 : decide ((d'.objects.length : Int) ≥ 256) with
            | true =>
              have hs : mgS (d', c) x = (d', c) := by rw [hs0]; simp only [h3, cond_true]
              simp +contextual only [go_sem, ↓reduceIte, Nat.reduceEqDiff, Nat.reduceAdd, Nat.reduceLeDiff, Nat.reduceLT, reduceCtorEq, k42, e1', h2, hlk, hml, h3, lt_dec hlt, hx, hw, h51, h52, g3, g4, g5, g6, g7, g8, hn0, z0, z1, z2, z3, z4, z5, z6, z7, z8, z9, z10, z11, hst, List.length_map, List.getElem?_map, Option.map_some, Int.natCast_nonneg, Int.toNat_natCast, Nat.add_eq_left, Nat.left_eq_add, Nat.add_assoc]
              refine ⟨by simp [apartI, apartAll, clash, List.range, List.range.loop, z0, z1, z2, z3, z4, z5, z6, z7, z8, z9, z10, z11]; decide, ⟨d', c, m, n + 13, updH (updH (updH (updH H n (.live 6 [zeroC] true)) n (.live 6 [Cod.enc x] true)) (n + 10) (.live 7 [zeroMC] true)) (n + 10) (.live 7 [zeroMC] true)⟩, hI.keep hs (fun id hid => (updH_ne (by omega)).trans ((updH_ne (by omega)).trans ((updH_ne (by omega)).trans ((updH_ne (by omega)).trans (rfl))))) (fun k => (updH_ne (by omega)).trans ((updH_ne (by omega)).trans ((updH_ne (by omega)).trans ((updH_ne (by omega)).trans ((congrArg H (Nat.add_assoc _ _ _)).trans (g8 _)))))) (by omega), .slots ?_⟩
              simp +contextual only [go_sem, ↓reduceIte, Nat.reduceEqDiff, Nat.reduceAdd, Nat.reduceLeDiff, Nat.reduceLT, reduceCtorEq]
            | false =>
              have hs : mgS (d', c) x = (storeD d' x, c + 1) := by rw [hs0]; simp only [h3, cond_false]
              simp +contextual only [go_sem, ↓reduceIte, Nat.reduceEqDiff, Nat.reduceAdd, Nat.reduceLeDiff, Nat.reduceLT, reduceCtorEq, k42, e1', h2, hlk, hml, h3, lt_dec hlt, hx, hw, h51, h52, g3, g4, g5, g6, g7, g8, hn0, z0, z1, z2, z3, z4, z5, z6, z7, z8, z9, z10, z11, hst, List.length_map, List.getElem?_map, Option.map_some, Int.natCast_nonneg, Int.toNat_natCast, Nat.add_eq_left, Nat.left_eq_add, Nat.add_assoc]
              refine ⟨by simp [apartI, apartAll, clash, List.range, List.range.loop, z0, z1, z2, z3, z4, z5, z6, z7, z8, z9, z10, z11]; decide, ?_⟩
              have hwn : IntKind.i64.wrap (d'.next + 1) = d'.next + 1 := by have := g2.n1; simp only [List.length_cons] at g11; rw [IntKind.wrap_i64]; omega
              have hwc : IntKind.i64.wrap (c + 1) = c + 1 := by simp only [List.length_cons] at g13; rw [IntKind.wrap_i64]; omega
              refine ct57 (r := 13) (mp := 7) (next := d'.next) (m := m) hg h52 (by omega) (by omega) (by omega) ((updH_ne (by omega)).trans ((updH_ne (by omega)).trans ((updH_ne (by omega)).trans ((updH_ne (by omega)).trans (g4))))) ((updH_ne (by omega)).trans ((updH_ne (by omega)).trans ((updH_ne (by omega)).trans ((updH_ne (by omega)).trans (g5))))) (fun k => (updH_ne (by omega)).trans ((updH_ne (by omega)).trans ((updH_ne (by omega)).trans ((updH_ne (by omega)).trans ((congrArg H (Nat.add_assoc _ _ _)).trans (g8 _)))))) fun τ2 => ?_
              rw [hwn, hwc]
              refine ⟨⟨storeD d' x, c + 1, putO m (x, d'.next), n + 13 + 15, updH (updH (updH (updH (updH (updH (updH H n (.live 6 [zeroC] true)) n (.live 6 [Cod.enc x] true)) (n + 10) (.live 7 [zeroMC] true)) (n + 10) (.live 7 [zeroMC] true)) (n + 13) (.live 6 [Cod.enc x] true)) 7 (.ext (.map (keysM (putO m (x, d'.next))) (valsM (putO m (x, d'.next)))))) 13 (.live 2 [shX 7 (d'.next + 1)] true)⟩, hI.store hs h1 (.inr (by simp at h3; omega)) (fun id hid i1 i2 => (updH_ne (by omega)).trans ((updH_ne (by omega)).trans ((updH_ne (by omega)).trans ((updH_ne (by omega)).trans ((updH_ne (by omega)).trans ((updH_ne (by omega)).trans ((updH_ne (by omega)).trans (rfl)))))))) updH_at ((updH_ne (by omega)).trans (updH_at)) (fun k => (updH_ne (by omega)).trans ((updH_ne (by omega)).trans ((updH_ne (by omega)).trans ((updH_ne (by omega)).trans ((updH_ne (by omega)).trans ((updH_ne (by omega)).trans ((updH_ne (by omega)).trans ((congrArg H (by omega)).trans (g8 (k + 28)))))))))) (by omega), .slots ?_⟩
              simp +contextual only [go_sem, ↓reduceIte, Nat.reduceEqDiff, Nat.reduceAdd, Nat.reduceLeDiff, Nat.reduceLT, reduceCtorEq]
      · have e1 : (chkO x == 0) = false := by simpa using h1
        have e1' : (chkO x != 0) = true := by simpa using h1
        have hs : mgS (d', c) x = (d', c) := by simp only [mgS, e1, Bool.not_false, cond_true]
        simp +contextual only [go_sem, ↓reduceIte, Nat.reduceEqDiff, Nat.reduceAdd, Nat.reduceLeDiff, Nat.reduceLT, reduceCtorEq, k42, e1', lt_dec hlt, hx, hw, h51, h52, g3, g4, g5, g6, g7, g8, hn0, z0, z1, z2, z3, z4, z5, z6, z7, z8, z9, z10, z11, hst, List.length_map, List.getElem?_map, Option.map_some, Int.natCast_nonneg, Int.toNat_natCast, Nat.add_eq_left, Nat.left_eq_add, Nat.add_assoc]
        refine ⟨⟨d', c, m, n + 2, updH (updH H n (.live 6 [zeroC] true)) n (.live 6 [Cod.enc x] true)⟩, hI.keep hs (fun id hid => (updH_ne (by omega)).trans ((updH_ne (by omega)).trans (rfl))) (fun k => (updH_ne (by omega)).trans ((updH_ne (by omega)).trans ((congrArg H (Nat.add_assoc _ _ _)).trans (g8 _)))) (by omega), .slots ?_⟩
        simp +contextual only [go_sem, ↓reduceIte, Nat.reduceEqDiff, Nat.reduceAdd, Nat.reduceLeDiff, Nat.reduceLT, reduceCtorEq]
  · cases h
end Go.Proofs.Ytalhbhbkdfmhgaa
