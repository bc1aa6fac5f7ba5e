/- Copies of records and parties. -/
import Derived.Test.YtalhbhbkdfmhgaaCopy48
namespace Go.Proofs.Ytalhbhbkdfmhgaa
set_option linter.all false
open Go.Idl
set_option maxHeartbeats 8000000
set_option maxRecDepth 100000
attribute [local go_sem] agPty agCdr agDis eqDis agDir agObj eqItm Try.underlying3 Try.underlying5 Try.underlying9 Try.underlying4
theorem isF_items (l : List ItemD) : (l.map Cod.enc).all V.isF = true := by
  simp only [List.all_map, List.all_eq_true]
  intro x _
  rfl
theorem okE_items (l : List ItemD) : (l.map Cod.enc).all (okE 7) = true := by
  simp only [List.all_map, List.all_eq_true]
  intro x _
  rfl
abbrev SFrR : List V → Option V := FT fun (t : CdrD × Unit) => if t.1.items.length ≤ 1000000 then some t.1 else none
theorem con19 {Φ : Specs} (hg : Idl.Good Try.prog Φ) : Contract Try.prog 19 SFrR := by
  refine conT hg k19 ic19 (by decide) fun C t r h => ?_
  obtain ⟨c, u⟩ := t
  dsimp only at h
  split at h
  · rename_i hl
    have c1 : c.items.length * 56 ≤ 68719476736 := by omega
    have c2 : c.items.length ≤ 4294967296 := by omega
    cases h
    simp +contextual only [go_sem, ↓reduceIte, Nat.reduceEqDiff, Nat.reduceAdd, Nat.reduceLeDiff, Nat.reduceLT, reduceCtorEq, c19, k19, List.length_map, isF_items, okE_items, c1, c2, and_self, decL_enc Cod.dec_enc, List.take_of_length_le, Nat.le_refl, Nat.zero_add]
  · cases h
theorem okE_ints (l : List Int) : (l.map Cod.enc).all (okE 1) = true := by
  simp only [List.all_map, List.all_eq_true]
  intro x _
  rfl
theorem triH {P : Program} {C : Ctx} {N : Nat} {b : IC} {τ : Nat → V} {H : Heap} {n : Nat} {Q : Exit → SF → Prop} (h : ∀ H', H' = H → TriI P C N b ⟨τ, H', n⟩ Q) : TriI P C N b ⟨τ, H, n⟩ Q := h H rfl
theorem againH {C : Ctx} {α A : Type} {st : Nat → A → SF} {inv : List α → A → Prop} {i : Nat} {xs : List α} {τ : Nat → V} {H : Heap} {n : Nat} (h : ∀ H', H' = H → againL C st inv i xs ⟨τ, H', n⟩) : againL C st inv i xs ⟨τ, H, n⟩ := h H rfl
abbrev zeroPy : V := .agg [.sc (.string ⟨#[]⟩), .sc (.string ⟨#[]⟩), .sc (.slice none 0 0), .sc (.slice none 0 0), .sc (.int .i64 0), .sc (.slice none 0 0), .sc (.slice none 0 0)]
abbrev outP (p : PartyD) (mid : Nat) (vo vc vd : V) : V := .agg [.sc (.string p.name), .sc (.string p.dir.party), vo, .own mid 0 p.dir.marks.length, .sc (.int .i64 p.dir.next), vc, vd]
structure FrA (H0 : Heap) (n : Nat) (p : PartyD) (acc : List ObjD) (oid np : Nat) (H : Heap) : Prop where
  a1 : H n = .live 7 [Cod.enc p] true
  a2 : H (n + 1) = .live 7 [zeroPy] true
  a3 : H (n + 2) = .live 7 [outP p (n + 4) (.own oid 0 acc.length) (Cod.enc p.cdrs) (Cod.enc p.disputes)] true
  a4 : H (n + 4) = .live 1 (p.dir.marks.map Cod.enc) true
  a5 : H oid = .live 6 (acc.map Cod.enc) true
  a6 : ∀ id, np ≤ id → H id = .unborn
  a7 : n + 4 < oid
  a8 : oid < np
  a9 : ∀ id, id < n → H id = H0 id
structure FrB (H0 : Heap) (n : Nat) (p : PartyD) (acc : List CdrD) (oid cid np : Nat) (H : Heap) : Prop where
  a1 : H n = .live 7 [Cod.enc p] true
  a2 : H (n + 1) = .live 7 [zeroPy] true
  a3 : H (n + 2) = .live 7 [outP p (n + 4) (.own oid 0 p.dir.objects.length) (.own cid 0 acc.length) (Cod.enc p.disputes)] true
  a4 : H (n + 4) = .live 1 (p.dir.marks.map Cod.enc) true
  a5 : H oid = .live 6 (p.dir.objects.map Cod.enc) true
  a5' : H cid = .live 14 (acc.map Cod.enc) true
  a6 : ∀ id, np ≤ id → H id = .unborn
  a7 : n + 4 < oid
  a8 : oid < cid
  a8' : cid < np
  a9 : ∀ id, id < n → H id = H0 id
structure FrC (H0 : Heap) (n : Nat) (p : PartyD) (mid oid cid did np : Nat) (H : Heap) : Prop where
  m : H mid = .live 1 (p.dir.marks.map Cod.enc) true
  o : H oid = .live 6 (p.dir.objects.map Cod.enc) true
  c : H cid = .live 14 (p.cdrs.map Cod.enc) true
  d : H did = .live 6 (p.disputes.map Cod.enc) true
  un : ∀ id, np ≤ id → H id = .unborn
  g1 : n ≤ mid
  g2 : mid < oid
  g3 : oid < cid
  g4 : cid < did
  g5 : did < np
  old : ∀ id, id < n → H id = H0 id
theorem ct18 {Φ : Specs} (hg : Idl.Good Try.prog Φ) (h19 : Φ 19 = some SFrR) {C : Ctx} {H0 : Heap} {n : Nat} {p : PartyD} {τ : Nat → V} {K : V → SF → Prop}
    (hun : ∀ id, n ≤ id → H0 id = .unborn) (hp : OkP p) (hpi : okIt p.cdrs = true) (hdat : okDat p.dir.objects = true)
    (hk : ∀ τ' H' n' mid oid cid did, FrC H0 n p mid oid cid did n' H' → K (outP p mid (.own oid 0 p.dir.objects.length) (.own cid 0 p.cdrs.length) (.own did 0 p.disputes.length)) ⟨τ', H', n'⟩) :
    CallT Try.prog C 18 [Cod.enc p] ⟨τ, H0, n⟩ K := by
  refine CallT.of_walk hg k18 ic18 (by simp) fun C' hlow' => ?_
  have hu0 : H0 n = .unborn := hun n (Nat.le_refl _)
  have huk : ∀ k, H0 (n + k) = .unborn := fun k => hun _ (by omega)
  have p1 := hp.c
  have p2 := hp.d
  have p3 := hp.o
  have p4 := hp.m
  have m1 : p.dir.marks.length * 8 ≤ 68719476736 := by omega
  have m2 : p.dir.marks.length ≤ 4294967296 := by omega
  have o1 : (0 : Int) ≤ (p.dir.objects.length : Int) := by omega
  have o2 : 80 * p.dir.objects.length ≤ 281474976710656 := by omega
  have o3 : (p.dir.objects.length : Int) ≤ 4294967296 := by omega
  simp +contextual only [go_sem, ↓reduceIte, Nat.reduceEqDiff, Nat.reduceAdd, Nat.reduceLeDiff, Nat.reduceLT, reduceCtorEq, c18, k18, List.length_map, okE_ints, isF_ints, huk, hu0, m1, m2, o1, o2, o3, Int.le_refl, Int.toNat_natCast, Int.toNat_zero, List.replicate_zero, Nat.add_eq_left, Nat.left_eq_add, Nat.add_assoc, true_and, and_true]
  refine triH fun H1 hH1 => ?_
  have hA : FrA H0 n p [] (n + 6) (n + 8) H1 := ⟨by rw [hH1]; (repeat (first | exact updH_at | refine (updH_ne (by omega)).trans ?_)), by rw [hH1]; (repeat (first | exact updH_at | refine (updH_ne (by omega)).trans ?_)), by rw [hH1]; (repeat (first | exact updH_at | refine (updH_ne (by omega)).trans ?_)), by rw [hH1]; (repeat (first | exact updH_at | refine (updH_ne (by omega)).trans ?_)), by rw [hH1]; (repeat (first | exact updH_at | refine (updH_ne (by omega)).trans ?_)), fun id hid => by rw [hH1]; (repeat (refine (updH_ne (by omega)).trans ?_)); exact hun _ (by omega), by omega, by omega, fun id hid => by rw [hH1]; (repeat (refine (updH_ne (by omega)).trans ?_)); rfl⟩
  refine TriI.loopL hg k18 p.dir.objects (fun i (q : List ObjD × Nat × Nat × Heap) => ⟨slotsL [(1, .ref n 0 0), (2, .ref (n + 1) 0 0), (3, .ref (n + 2) 0 0), (24, Cod.enc p.dir.objects), (25, .sc (.int .i64 p.dir.objects.length)), (26, .sc (.int .i64 i))], q.2.2.2, q.2.2.1⟩)
    (fun xs q => p.dir.objects = q.1 ++ xs ∧ okDat xs = true ∧ FrA H0 n p q.1 q.2.1 q.2.2.1 q.2.2.2) ([], n + 6, n + 8, H1) (.slots ?_) ⟨rfl, hdat, ?_⟩ ?_ ?_
  · simp +contextual only [go_sem, ↓reduceIte, Nat.reduceEqDiff, Nat.reduceAdd, Nat.reduceLeDiff, Nat.reduceLT, reduceCtorEq, List.length_map]
    rfl
  · exact hA
  · rintro ⟨acc, oid, np, H2⟩ ⟨g1, _, g⟩
    dsimp only at g1 g ⊢
    rw [List.append_nil] at g1
    subst g1
    obtain ⟨a1, a2, a3, a4, a5, a6, a7, a8, a9⟩ := g
    have u0 : H2 np = .unborn := a6 _ (Nat.le_refl _)
    have uk : ∀ k, H2 (np + k) = .unborn := fun k => a6 _ (by omega)
    have z1 : ∀ k, (n = np + k) = False := fun k => by simp; omega
    have z2 : ∀ k, (n + 2 = np + k) = False := fun k => by simp; omega
    have z3 : (n = np) = False := by simp; omega
    have z4 : (n + 2 = np) = False := by simp; omega
    have c0 : IntKind.i64.wrap ((p.cdrs.length : Int) + 1) = (p.cdrs.length : Int) + 1 := by rw [IntKind.wrap_i64]; omega
    have c1 : (0 : Int) ≤ (p.cdrs.length : Int) + 1 := by omega
    have c2 : 184 * ((p.cdrs.length : Int) + 1).toNat ≤ 281474976710656 := by omega
    have c3 : (p.cdrs.length : Int) + 1 ≤ 4294967296 := by omega
    simp +contextual only [go_sem, ↓reduceIte, Nat.reduceEqDiff, Nat.reduceAdd, Nat.reduceLeDiff, Nat.reduceLT, reduceCtorEq, k18, outP, Int.lt_irrefl, decide_false, a1, a3, a5, u0, uk, z1, z2, z3, z4, c0, c1, c2, c3, List.length_map, Int.le_refl, Int.toNat_natCast, Int.toNat_zero, List.replicate_zero, Nat.add_eq_left, Nat.left_eq_add, Nat.add_assoc, true_and, and_true]
    refine triH fun H3 hH3 => ?_
    have hB : FrB H0 n p [] oid np (np + 2) H3 := ⟨by rw [hH3]; (repeat (first | exact updH_at | refine (updH_ne (by omega)).trans ?_)); exact a1, by rw [hH3]; (repeat (first | exact updH_at | refine (updH_ne (by omega)).trans ?_)); exact a2, by rw [hH3]; (repeat (first | exact updH_at | refine (updH_ne (by omega)).trans ?_)), by rw [hH3]; (repeat (first | exact updH_at | refine (updH_ne (by omega)).trans ?_)); exact a4, by rw [hH3]; (repeat (first | exact updH_at | refine (updH_ne (by omega)).trans ?_)); exact a5, by rw [hH3]; (repeat (first | exact updH_at | refine (updH_ne (by omega)).trans ?_)), fun id hid => by rw [hH3]; (repeat (refine (updH_ne (by omega)).trans ?_)); exact a6 _ (by omega), a7, by omega, by omega, fun id hid => by rw [hH3]; (repeat (refine (updH_ne (by omega)).trans ?_)); exact a9 _ hid⟩
    refine TriI.loopL hg k18 p.cdrs (fun i (q : List CdrD × Nat × Nat × Heap) => ⟨slotsL [(1, .ref n 0 0), (2, .ref (n + 1) 0 0), (3, .ref (n + 2) 0 0), (50, Cod.enc p.cdrs), (51, .sc (.int .i64 p.cdrs.length)), (52, .sc (.int .i64 i))], q.2.2.2, q.2.2.1⟩)
      (fun xs q => p.cdrs = q.1 ++ xs ∧ FrB H0 n p q.1 oid q.2.1 q.2.2.1 q.2.2.2) ([], np, np + 2, H3) (.slots ?_) ⟨rfl, hB⟩ ?_ ?_
    · simp +contextual only [go_sem, ↓reduceIte, Nat.reduceEqDiff, Nat.reduceAdd, Nat.reduceLeDiff, Nat.reduceLT, reduceCtorEq, List.length_map]
      rfl
    · clear hB hH3 H3 a1 a2 a3 a4 a5 a6 a7 a8 a9 u0 uk z1 z2 z3 z4
      rintro ⟨acc, cid, np, H2⟩ ⟨g1, g⟩
      dsimp only at g1 g ⊢
      rw [List.append_nil] at g1
      obtain ⟨a1, a2, a3, a4, a5, a5', a6, a7, a8, a8', a9⟩ := g
      have hcl : acc.length = p.cdrs.length := by rw [g1]
      rw [hcl] at a3
      rw [← g1] at a5'
      have u0 : H2 np = .unborn := a6 _ (Nat.le_refl _)
      have uk : ∀ k, H2 (np + k) = .unborn := fun k => a6 _ (by omega)
      have z1 : ∀ k, (n = np + k) = False := fun k => by simp; omega
      have z2 : ∀ k, (n + 2 = np + k) = False := fun k => by simp; omega
      have z3 : (n = np) = False := by simp; omega
      have z4 : (n + 2 = np) = False := by simp; omega
      have c0 : IntKind.i64.wrap ((p.disputes.length : Int) + 1) = (p.disputes.length : Int) + 1 := by rw [IntKind.wrap_i64]; omega
      have c1 : (0 : Int) ≤ (p.disputes.length : Int) := by omega
      have c4 : (p.disputes.length : Int) ≤ (p.disputes.length : Int) + 1 := by omega
      have c2 : 64 * ((p.disputes.length : Int) + 1).toNat ≤ 281474976710656 := by omega
      have c3 : (p.disputes.length : Int) + 1 ≤ 4294967296 := by omega
      simp +contextual only [go_sem, ↓reduceIte, Nat.reduceEqDiff, Nat.reduceAdd, Nat.reduceLeDiff, Nat.reduceLT, reduceCtorEq, k18, outP, Int.lt_irrefl, decide_false, a1, a3, a5, u0, uk, z1, z2, z3, z4, c0, c1, c2, c3, c4, List.length_map, Int.le_refl, Int.toNat_natCast, Int.toNat_zero, List.replicate_zero, Nat.add_eq_left, Nat.left_eq_add, Nat.add_assoc, true_and, and_true]
      refine stepI_copy (sz := 6) (e := 78) Try.underlying28 (by kernel_rfl) (by decide) (k := 74) (k2 := 76) (id := np) (off := 0) (len := p.disputes.length) rfl (by (repeat (first | exact updH_at | refine (updH_ne (by omega)).trans ?_))) (by simp) rfl (by simp) (fun y hy => ?_) (isF_diss _) ?_ (copy_none rfl)
      · obtain ⟨d, _, rfl⟩ := List.mem_map.1 hy
        rfl
      rw [List.take_zero, List.nil_append, List.drop_eq_nil_of_le (by simp), List.append_nil]
      have z5 : ∀ k, (np + k = n + 2) = False := fun k => by simp; omega
      have z6 : (np = n + 2) = False := by simp; omega
      have z7 : (n + 1 = np) = False := by simp; omega
      have z8 : (np = n + 1) = False := by simp; omega
      simp +contextual only [go_sem, ↓reduceIte, Nat.reduceEqDiff, Nat.reduceAdd, Nat.reduceLeDiff, Nat.reduceLT, reduceCtorEq, k18, outP, a1, a2, a3, a5, z1, z2, z3, z4, z5, z6, z7, z8, Nat.add_eq_left, Nat.left_eq_add, Nat.add_assoc, true_and, and_true]
      refine hk _ _ _ (n + 4) oid cid np ?_
      exact ⟨by (repeat (first | exact updH_at | refine (updH_ne (by omega)).trans ?_)); exact a4, by (repeat (first | exact updH_at | refine (updH_ne (by omega)).trans ?_)); exact a5, by (repeat (first | exact updH_at | refine (updH_ne (by omega)).trans ?_)); exact a5', by (repeat (first | exact updH_at | refine (updH_ne (by omega)).trans ?_)), fun id hid => by (repeat (refine (updH_ne (by omega)).trans ?_)); exact a6 _ (by omega), by omega, a7, a8, a8', by omega, fun id hid => by (repeat (refine (updH_ne (by omega)).trans ?_)); exact a9 _ hid⟩
    · clear hB hH3 H3 a1 a2 a3 a4 a5 a6 a7 a8 a9 u0 uk z1 z2 z3 z4
      rintro i ⟨acc, cid, np, H2⟩ x xs hdr hlt hx ⟨g1, g⟩
      dsimp only at g1 g ⊢
      obtain ⟨a1, a2, a3, a4, a5, a5', a6, a7, a8, a8', a9⟩ := g
      have hw := wrap_nat hlt (by omega)
      have l1 := okIt_mem hpi (List.mem_of_getElem? hx)
      have hal : acc.length + xs.length + 1 = p.cdrs.length := by rw [g1]; simp; omega
      have b1 : (acc.length + 1) * 184 ≤ 68719476736 := by omega
      have b2 : acc.length + 1 ≤ 4294967296 := by omega
      have u0 : H2 np = .unborn := a6 _ (Nat.le_refl _)
      have uk : ∀ k, H2 (np + k) = .unborn := fun k => a6 _ (by omega)
      have z1 : ∀ k, (n = np + k) = False := fun k => by simp; omega
      have z2 : ∀ k, (n + 2 = np + k) = False := fun k => by simp; omega
      have z3 : (n = np) = False := by simp; omega
      have z4 : (n + 2 = np) = False := by simp; omega
      have z5 : ∀ k, (np + k = n + 2) = False := fun k => by simp; omega
      have z6 : (np = n + 2) = False := by simp; omega
      have z7 : (cid = np) = False := by simp; omega
      have z8 : ∀ k, (cid = np + k) = False := fun k => by simp; omega
      have z9 : (cid = n + 2) = False := by simp; omega
      have z10 : (n + 2 = cid) = False := by simp; omega
      have z11 : ∀ k, (np + k = cid) = False := fun k => by simp; omega
      have z12 : (np = cid) = False := by simp; omega
      simp +contextual only [go_sem, ↓reduceIte, Nat.reduceEqDiff, Nat.reduceAdd, Nat.reduceLeDiff, Nat.reduceLT, reduceCtorEq, k18, outP, z10, z11, z12, lt_dec hlt, hx, hw, h19, l1, a1, a3, a5', u0, uk, z1, z2, z3, z4, z5, z6, z7, z8, z9, b1, b2, okE, okE_items, isF_items, low_cdrs, List.length_map, List.getElem?_map, Option.map_some, Int.natCast_nonneg, Int.toNat_natCast, decL_enc Cod.dec_enc, Nat.zero_add, List.drop_zero, Nat.le_refl, List.take_of_length_le, Nat.add_eq_left, Nat.left_eq_add, Nat.add_assoc, true_and, and_true]
      refine ⟨by simp [apartI, apartAll, clash, List.range, List.range.loop, z1, z2, z3, z4, z5, z6, z7, z8, z9, z10, z11, z12]; (try decide), ?_⟩
      have hal1 : (acc ++ [x]).length = acc.length + 1 := by simp
      have ham : ((acc ++ [x]).map Cod.enc : List V) = acc.map Cod.enc ++ [Cod.enc x] := by simp
      refine againH fun H3 hH3 => ⟨(acc ++ [x], np + 7, np + 10, H3), ⟨by rw [g1]; simp, ?_⟩, .slots ?_⟩
      · dsimp only
        refine ⟨by rw [hH3]; (repeat (first | exact updH_at | refine (updH_ne (by omega)).trans ?_)); exact a1, by rw [hH3]; (repeat (first | exact updH_at | refine (updH_ne (by omega)).trans ?_)); exact a2, by rw [hal1, hH3]; (repeat (first | exact updH_at | refine (updH_ne (by omega)).trans ?_)), by rw [hH3]; (repeat (first | exact updH_at | refine (updH_ne (by omega)).trans ?_)); exact a4, by rw [hH3]; (repeat (first | exact updH_at | refine (updH_ne (by omega)).trans ?_)); exact a5, by rw [ham, hH3]; (repeat (first | exact updH_at | refine (updH_ne (by omega)).trans ?_)), fun id hid => by rw [hH3]; (repeat (refine (updH_ne (by omega)).trans ?_)); exact a6 _ (by omega), a7, by omega, by omega, fun id hid => by rw [hH3]; (repeat (refine (updH_ne (by omega)).trans ?_)); exact a9 _ hid⟩
      · simp +contextual only [go_sem, ↓reduceIte, Nat.reduceEqDiff, Nat.reduceAdd, Nat.reduceLeDiff, Nat.reduceLT, reduceCtorEq]
  · rintro i ⟨acc, oid, np, H2⟩ x xs hdr hlt hx ⟨g1, g2, g⟩
    dsimp only at g1 g ⊢
    obtain ⟨a1, a2, a3, a4, a5, a6, a7, a8, a9⟩ := g
    have hw := wrap_nat hlt (by omega)
    obtain ⟨hxd, g2⟩ := okDat_cons g2
    have hal : acc.length + xs.length + 1 = p.dir.objects.length := by rw [g1]; simp; omega
    have b1 : (acc.length + 1) * 80 ≤ 68719476736 := by omega
    have b2 : acc.length + 1 ≤ 4294967296 := by omega
    have d1 : x.data.length * 1 ≤ 68719476736 := by omega
    have d2 : x.data.length ≤ 4294967296 := by omega
    have u0 : H2 np = .unborn := a6 _ (Nat.le_refl _)
    have uk : ∀ k, H2 (np + k) = .unborn := fun k => a6 _ (by omega)
    have z1 : ∀ k, (n = np + k) = False := fun k => by simp; omega
    have z2 : ∀ k, (n + 2 = np + k) = False := fun k => by simp; omega
    have z3 : (n = np) = False := by simp; omega
    have z4 : (n + 2 = np) = False := by simp; omega
    have z5 : ∀ k, (np + k = n + 2) = False := fun k => by simp; omega
    have z6 : (np = n + 2) = False := by simp; omega
    have z7 : (oid = np) = False := by simp; omega
    have z8 : ∀ k, (oid = np + k) = False := fun k => by simp; omega
    have z9 : (oid = n + 2) = False := by simp; omega
    have z10 : (n + 2 = oid) = False := by simp; omega
    simp +contextual only [go_sem, ↓reduceIte, Nat.reduceEqDiff, Nat.reduceAdd, Nat.reduceLeDiff, Nat.reduceLT, reduceCtorEq, k18, outP, z10, lt_dec hlt, hx, hw, a1, a3, a5, u0, uk, z1, z2, z3, z4, z5, z6, z7, z8, z9, b1, b2, d1, d2, okE, okE_by, isF_by, low_obs, List.length_map, List.getElem?_map, Option.map_some, Int.natCast_nonneg, Int.toNat_natCast, decL_enc Cod.dec_enc, Nat.zero_add, List.drop_zero, Nat.le_refl, List.take_of_length_le, Nat.add_eq_left, Nat.left_eq_add, Nat.add_assoc, true_and, and_true]
    have hal1 : (acc ++ [x]).length = acc.length + 1 := by simp
    have ham : ((acc ++ [x]).map Cod.enc : List V) = acc.map Cod.enc ++ [Cod.enc x] := by simp
    refine againH fun H3 hH3 => ⟨(acc ++ [x], np + 5, np + 7, H3), ⟨by rw [g1]; simp, g2, ?_⟩, .slots ?_⟩
    · dsimp only
      refine ⟨by rw [hH3]; (repeat (first | exact updH_at | refine (updH_ne (by omega)).trans ?_)); exact a1, by rw [hH3]; (repeat (first | exact updH_at | refine (updH_ne (by omega)).trans ?_)); exact a2, by rw [hal1, hH3]; (repeat (first | exact updH_at | refine (updH_ne (by omega)).trans ?_)), by rw [hH3]; (repeat (first | exact updH_at | refine (updH_ne (by omega)).trans ?_)); exact a4, by rw [ham, hH3]; (repeat (first | exact updH_at | refine (updH_ne (by omega)).trans ?_)), fun id hid => by rw [hH3]; (repeat (refine (updH_ne (by omega)).trans ?_)); exact a6 _ (by omega), by omega, by omega, fun id hid => by rw [hH3]; (repeat (refine (updH_ne (by omega)).trans ?_)); exact a9 _ hid⟩
    · simp +contextual only [go_sem, ↓reduceIte, Nat.reduceEqDiff, Nat.reduceAdd, Nat.reduceLeDiff, Nat.reduceLT, reduceCtorEq]
end Go.Proofs.Ytalhbhbkdfmhgaa
