/- Sync, between any two parties. -/
import Derived.Test.YtalhbhbkdfmhgaaSyn25q
namespace Go.Idl
set_option linter.all false
set_option linter.all false
variable [Laid] {P : Program} {Φ : Specs} {C : Ctx} {bef : List Nat} {n0 : Nat} {acc : List Rec} {i0 : Nat}
@[go_sem ↓] theorem stepI_4 (Q : SF → Prop) (rest : List IOp) (d : Nat) (io : Option Ins) (τ : Nat → V) (H : Heap) (n : Nat) (v : V) (i j k l : Nat) (x y z t : Obj) : stepI P Φ C Q rest (some d) io τ H n (some (v, [(i, x), (j, y), (k, z), (l, t)])) = seqI P Φ C Q rest ⟨updT τ d v, updH (updH (updH (updH H i x) j y) k z) l t, n + 1⟩ := nd rfl
end Go.Idl
namespace Go.Proofs.Ytalhbhbkdfmhgaa
set_option linter.all false
open Go.Idl
set_option maxHeartbeats 16000000
set_option maxRecDepth 100000
attribute [local go_sem] agPty agCdr agDis eqDis agDir agObj eqItm Try.underlying3 Try.underlying5 Try.underlying9 Try.underlying4
theorem bkC_isF {f : Nat → Option (Option Nat)} {x : V} (h : x.isFc = true) : V.bkC f x = some x := by
  cases x <;> first | rfl | (simp [V.isFc] at h; done)
theorem bkL_isFc {f : Nat → Option (Option Nat)} : ∀ {es : List V}, es.all V.isFc = true → bkL (V.bkC f) es = some es
  | [], _ => rfl
  | x :: es, h => by
    rw [List.all_cons, Bool.and_eq_true] at h
    simp only [bkL, bkC_isF h.1, bkL_isFc h.2]
theorem bk_isF {f : Nat → Option (Option Nat)} {x : V} (h : x.isF = true) : V.bk f x = some x := by
  cases x with
  | agg cs => simp only [V.bk, bkL_isFc (show cs.all V.isFc = true from h), Option.map_some]
  | _ => first | rfl | (simp [V.isF, V.isFc] at h; done)
theorem bkL_isF {f : Nat → Option (Option Nat)} : ∀ {es : List V}, es.all V.isF = true → bkL (V.bk f) es = some es
  | [], _ => rfl
  | x :: es, h => by
    rw [List.all_cons, Bool.and_eq_true] at h
    simp only [bkL, bk_isF h.1, bkL_isF h.2]
theorem bk_ints (f : Nat → Option (Option Nat)) (l : List Int) : bkL (V.bk f) (l.map Cod.enc) = some (l.map Cod.enc) := bkL_isF (isF_ints l)
theorem bk_obs (f : Nat → Option (Option Nat)) (l : List ObjD) : bkL (V.bk f) (l.map Cod.enc) = some (l.map Cod.enc) := bkL_isF (isF_obs l)
theorem bk_cdrs (f : Nat → Option (Option Nat)) (l : List CdrD) : bkL (V.bk f) (l.map Cod.enc) = some (l.map Cod.enc) := bkL_isF (isF_cdrs l)
theorem bk_diss (f : Nat → Option (Option Nat)) (l : List Disp) : bkL (V.bk f) (l.map Cod.enc) = some (l.map Cod.enc) := bkL_isF (isF_diss l)
theorem newsD_len : ∀ (l : List ObjD) (m : List Int) (k : Int), (newsD l m k).length ≤ l.length
  | [], _, _ => by simp [newsD]
  | _ :: _, [], _ => by simp [newsD]
  | o :: l, m :: ms, k => by
    have := newsD_len l ms k
    rw [newsD]
    cases decide (m > k) <;> simp only [cond_true, cond_false, List.length_cons] <;> omega
theorem low_ints (n : Nat) (l : List Int) : (l.map Cod.enc).all (V.low n) = true := by
  simp only [List.all_map, List.all_eq_true]
  intro x _
  rfl
theorem takeM {α β : Type} (f : α → β) (l : List α) : (l.map f).take l.length = l.map f := List.take_of_length_le (by simp)
abbrev slS (i : Int) : List (Nat × V) := [(2, .ref 0 0 0), (3, .ref 1 0 0), (4, .ref 2 0 0), (5, .ref 3 0 0), (9, .ref 12 0 0), (43, .own 13 0 4), (44, .sc (.int .i64 4)), (45, .sc (.int .i64 i))]
abbrev fnsO : Idl.Obj := .live 1 [.fn (.func 21) [.ref 12 0 0] [], .fn (.func 22) [.ref 12 0 0] [], .fn (.func 23) [.ref 12 0 0] [], .fn (.func 24) [.ref 12 0 0] []] true
abbrev sidA : Ids := ⟨4, 5, 6, 7⟩
abbrev sidB : Ids := ⟨8, 9, 10, 11⟩
abbrev halfC (p : PartyD) (d : DirD) (c dd : V) : List V := [.sc (.string p.name), .sc (.string d.party), .slice 6 (d.objects.map Cod.enc), .slice 1 (d.marks.map Cod.enc), .sc (.int .i64 d.next), c, dd]
abbrev ob0 (a b : PartyD) : List Idl.Obj := [.live 7 [Cod.enc a] true, .live 7 [Cod.enc b] true, .live 7 [zeroPy] true, .live 7 [zeroPy] true,
      .live 1 (a.dir.marks.map Cod.enc) true, .live 6 (a.dir.objects.map Cod.enc) true, .live 14 (a.cdrs.map Cod.enc) true, .live 6 (a.disputes.map Cod.enc) true,
      .live 1 (b.dir.marks.map Cod.enc) true, .live 6 (b.dir.objects.map Cod.enc) true, .live 14 (b.cdrs.map Cod.enc) true, .live 6 (b.disputes.map Cod.enc) true,
      .live 14 [.agg (cellsI a sidA ++ cellsI b sidB)] true, fnsO]
abbrev st0 (a b : PartyD) : SF := ⟨slotsL (slS 0), objsL (ob0 a b), 14⟩
abbrev ob1 (a b : PartyD) : List Idl.Obj := [.live 7 [Cod.enc a] true, .live 7 [Cod.enc b] true, .live 7 [zeroPy] true, .live 7 [zeroPy] true,
      .live 1 (a.dir.marks.map Cod.enc) true, .live 6 (a.dir.objects.map Cod.enc) true, .live 14 (a.cdrs.map Cod.enc) true, .live 6 (a.disputes.map Cod.enc) true,
      .live 1 (b.dir.marks.map Cod.enc) false, .live 6 (b.dir.objects.map Cod.enc) false, .live 14 (b.cdrs.map Cod.enc) false, .live 6 (b.disputes.map Cod.enc) false,
      .live 14 [.agg (cellsI a sidA ++ cellsI b sidB)] true, fnsO]
abbrev st1 (a b : PartyD) : SF := ⟨slotsL (slS 1), objsL (ob1 a b), 14⟩
abbrev ob2 (a b : PartyD) : List Idl.Obj := [.live 7 [Cod.enc a] true, .live 7 [Cod.enc b] true, .live 7 [zeroPy] true, .live 7 [zeroPy] true,
      .dead, .dead, .live 14 (a.cdrs.map Cod.enc) true, .live 6 (a.disputes.map Cod.enc) true,
      .dead, .dead, .live 14 (b.cdrs.map Cod.enc) false, .live 6 (b.disputes.map Cod.enc) false,
      .live 14 [.agg (halfC a (dirA a b) (.own 6 0 a.cdrs.length) (.own 7 0 a.disputes.length) ++ halfC b (dirA b a) (.own 10 0 b.cdrs.length) (.own 11 0 b.disputes.length))] true, fnsO]
abbrev st2 (a b : PartyD) : SF := ⟨slotsL (slS 2), objsL (ob2 a b), 14⟩
abbrev ob3 (a b : PartyD) : List Idl.Obj := [.live 7 [Cod.enc a] true, .live 7 [Cod.enc b] true, .live 7 [zeroPy] true, .live 7 [zeroPy] true,
      .dead, .dead, .live 14 ((a.cdrs ++ misR b a).map Cod.enc) false, .live 6 (a.disputes.map Cod.enc) false,
      .dead, .dead, .live 14 ((b.cdrs ++ misR a b).map Cod.enc) false, .live 6 (b.disputes.map Cod.enc) false,
      .live 14 [.agg (halfC a (dirA a b) (.own 6 0 (a.cdrs ++ misR b a).length) (.own 7 0 a.disputes.length) ++ halfC b (dirA b a) (.own 10 0 (b.cdrs ++ misR a b).length) (.own 11 0 b.disputes.length))] true, fnsO]
abbrev st3 (a b : PartyD) : SF := ⟨slotsL (slS 3), objsL (ob3 a b), 14⟩
abbrev ob4 (a b : PartyD) : List Idl.Obj := [.live 7 [Cod.enc a] true, .live 7 [Cod.enc b] true, .live 7 [zeroPy] true, .live 7 [zeroPy] true,
      .dead, .dead, .live 14 ((a.cdrs ++ misR b a).map Cod.enc) false, .dead,
      .dead, .dead, .live 14 ((b.cdrs ++ misR a b).map Cod.enc) false, .dead,
      .live 14 [.agg (halfC a (dirA a b) (.own 6 0 (a.cdrs ++ misR b a).length) (.slice 6 ((dsX a b a.name b.name).map Cod.enc)) ++ halfC b (dirA b a) (.own 10 0 (b.cdrs ++ misR a b).length) (.slice 6 ((dsX b a a.name b.name).map Cod.enc)))] true, .dead]
abbrev st4 (a b : PartyD) : SF := ⟨slotsL (slS 4), objsL (ob4 a b), 14⟩
def stS (a b : PartyD) : Nat → SF
  | 0 => st0 a b
  | 1 => st1 a b
  | 2 => st2 a b
  | 3 => st3 a b
  | _ => st4 a b
theorem stS0 (a b : PartyD) : stS a b 0 = st0 a b := rfl
theorem stS1 (a b : PartyD) : stS a b 1 = st1 a b := rfl
theorem stS2 (a b : PartyD) : stS a b 2 = st2 a b := rfl
theorem stS3 (a b : PartyD) : stS a b 3 = st3 a b := rfl
theorem stS4 (a b : PartyD) : stS a b [0, 1, 2, 3].length = st4 a b := rfl
theorem holdsQ_froz (f : Nat → Option (Option Nat)) (H : Heap) (m0 k sz : Nat) (es : List V) (ids : List (Option Nat)) (O : List Idl.Obj) : holdsQ f H m0 (some k :: ids) (.live sz es false :: O) = ((H k = .live sz es false ∧ (Idl.Obj.live sz es false).low m0 = true) ∧ holdsQ f H m0 ids O) := nd rfl
theorem con8 {Φ : Specs} (hg : Idl.Good Try.prog Φ) (h14 : Φ 14 = some SVlP) (hfr : Φ 18 = none) (h19 : Φ 19 = some SFrR) (h40 : Φ 40 = some SRcM)
    (h43 : Φ 43 = some SMis) (h28 : Φ 28 = some SEqC) (h41 : Φ 41 = some SSin) (h42 : Φ 42 = some SMrg)
    (h29 : Φ 29 = some SPDs) (h44 : Φ 44 = some SMgd) : Contract Try.prog 8 SSyn := by
  refine conT hg k8 ic8 (by decide) fun C t r h => ?_
  obtain ⟨a, b, u⟩ := t
  dsimp only at h
  split at h
  · rename_i hl
    obtain ⟨⟨sa, da, va, na⟩, ⟨sb, db, vb, nb⟩, hne⟩ := hl
    obtain ⟨ha, hai⟩ := okS_iff.1 sa
    obtain ⟨hb, hbi⟩ := okS_iff.1 sb
    have hao := okP_iff.2 ha
    have hbo := okP_iff.2 hb
    have hne' : decide (a.name = b.name) = false := decide_eq_false hne
    have wa := wp va
    have wb := wp vb
    have ca : a.cdrs.length ≤ 10000 := by have := wa.c; omega
    have cb : b.cdrs.length ≤ 10000 := by have := wb.c; omega
    have ia' := wa.ids
    have ib' := wb.ids
    cases h
    simp +contextual only [go_sem, ↓reduceIte, Nat.reduceEqDiff, Nat.reduceAdd, Nat.reduceLeDiff, Nat.reduceLT, reduceCtorEq, c8, k8, h14, hao, hbo, va, vb, hne', hfr, bne_self_eq_false]
    refine triH fun H1 hH1 => ?_
    have q0 : H1 0 = .live 7 [Cod.enc a] true := by rw [hH1]; (repeat (first | exact updH_at | refine (updH_ne (by omega)).trans ?_))
    have q1 : H1 1 = .live 7 [Cod.enc b] true := by rw [hH1]; (repeat (first | exact updH_at | refine (updH_ne (by omega)).trans ?_))
    have q2 : H1 2 = .live 7 [zeroPy] true := by rw [hH1]; (repeat (first | exact updH_at | refine (updH_ne (by omega)).trans ?_))
    have q3 : H1 3 = .live 7 [zeroPy] true := by rw [hH1]; (repeat (first | exact updH_at | refine (updH_ne (by omega)).trans ?_))
    have qu : ∀ id, 4 ≤ id → H1 id = .unborn := fun id hid => by rw [hH1]; (repeat (refine (updH_ne (by omega)).trans ?_)); rfl
    clear hH1
    refine TriI.orders hg k8 (fun S s => ∃ ia ib x, JS a b S ia ib x s) ⟨⟨0, 0, 0, 0⟩, ⟨0, 0, 0, 0⟩, 0, ?_⟩ ?_ ?_
    · refine ⟨?_, ?_, ?_, ?_, q0, q1, q2, q3, Nat.le_refl _, qu, ?_, ?_, ?_, ?_, ?_, ?_, ?_, ?_, ?_, ?_, ?_⟩ <;> first | rfl | (intro h; cases h)
    · rintro S ⟨τ, H, m⟩ j o ho hj hbf ⟨ia, ib, x, hJ⟩
      obtain ⟨t2, t3, t4, t5, h0, h1, h2, h3, n4, un, k0, k1, k2, k3, k4, k5, k6, d1, d3, d4, d6⟩ := hJ
      dsimp only at t2 t3 t4 t5 h0 h1 h2 h3 n4 un k0 k1 k2 k3 k4 k5 k6
      match j, ho with
      | 0, ho =>
        have := Option.some.inj ho
        subst this
        simp +contextual only [go_sem, ↓reduceIte, Nat.reduceEqDiff, Nat.reduceAdd, Nat.reduceLeDiff, Nat.reduceLT, reduceCtorEq, t2, h0]
        exact ⟨ia, ib, x, t2, t3, t4, t5, h0, h1, h2, h3, n4, un, fun _ => rfl, k1, k2, k3, k4, k5, k6, fun _ => rfl, d3, d4, d6⟩
      | 1, ho =>
        have := Option.some.inj ho
        subst this
        have s0 := hbf 0 (by decide)
        have c3 : S 3 = true → False := fun h => by have := (d3 h).1; rw [hj] at this; cases this
        have c4 : S 4 = true → False := fun h => c3 (d4 h).2
        have c6 : S 6 = true → False := fun h => c4 (d6 h).1
        simp +contextual only [go_sem, ↓reduceIte, Nat.reduceEqDiff, Nat.reduceAdd, Nat.reduceLeDiff, Nat.reduceLT, reduceCtorEq, k0 s0, hfr]
        refine ct18 hg h19 un ha hai da fun τ' H' n' mid oid cid did hF => ?_
        obtain ⟨f1, f2, f3, f4, f5, f6, f7, f8, f9, f10, f11⟩ := hF
        simp +contextual only [go_sem, ↓reduceIte, Nat.reduceEqDiff, Nat.reduceAdd, Nat.reduceLeDiff, Nat.reduceLT, reduceCtorEq]
        refine ⟨⟨mid, oid, cid, did⟩, ib, x, t2, t3, t4, t5, (f11 0 (by omega)).trans h0, (f11 1 (by omega)).trans h1, (f11 2 (by omega)).trans h2, (f11 3 (by omega)).trans h3, by show 4 ≤ n'; omega, f5, k0, fun _ => ⟨rfl, f1, f2, f3, f4, by show 4 ≤ mid; omega, f7, f8, f9, f10⟩, k2, fun h => (c3 h).elim, fun h => (c4 h).elim, fun h => ?_, fun h => (c6 h).elim, fun _ => s0, fun h => (c3 h).elim, fun h => (c4 h).elim, fun h => (c6 h).elim⟩
        obtain ⟨e1, e2, e3, e4, e5, e6⟩ := k5 h
        exact ⟨e1, e2, by show x < n'; omega, fun _ => ⟨by show x ≠ mid; omega, by show x ≠ oid; omega, by show x ≠ cid; omega, by show x ≠ did; omega⟩, fun h => (c3 h).elim, fun h => (f11 x e3).trans (e6 h)⟩
      | 2, ho =>
        have := Option.some.inj ho
        subst this
        simp +contextual only [go_sem, ↓reduceIte, Nat.reduceEqDiff, Nat.reduceAdd, Nat.reduceLeDiff, Nat.reduceLT, reduceCtorEq, t3, h1]
        exact ⟨ia, ib, x, t2, t3, t4, t5, h0, h1, h2, h3, n4, un, k0, k1, fun _ => rfl, k3, k4, k5, k6, d1, fun h => ⟨(d3 h).1, rfl⟩, d4, d6⟩
      | 3, ho =>
        have := Option.some.inj ho
        subst this
        have s1 := hbf 1 (by decide)
        have s2 := hbf 2 (by decide)
        have c4 : S 4 = true → False := fun h => by have := (d4 h).2; rw [hj] at this; cases this
        have c6 : S 6 = true → False := fun h => c4 (d6 h).1
        obtain ⟨v1, g⟩ := k1 s1
        have gg := g
        obtain ⟨w1, w2, w3, w4, w5, w6, w7, w8, w9⟩ := gg
        simp +contextual only [go_sem, ↓reduceIte, Nat.reduceEqDiff, Nat.reduceAdd, Nat.reduceLeDiff, Nat.reduceLT, reduceCtorEq, k2 s2, hfr]
        refine ct18 hg h19 un hb hbi db fun τ' H' n' mid oid cid did hF => ?_
        obtain ⟨f1, f2, f3, f4, f5, f6, f7, f8, f9, f10, f11⟩ := hF
        simp +contextual only [go_sem, ↓reduceIte, Nat.reduceEqDiff, Nat.reduceAdd, Nat.reduceLeDiff, Nat.reduceLT, reduceCtorEq]
        refine ⟨ia, ⟨mid, oid, cid, did⟩, x, t2, t3, t4, t5, (f11 0 (by omega)).trans h0, (f11 1 (by omega)).trans h1, (f11 2 (by omega)).trans h2, (f11 3 (by omega)).trans h3, by show 4 ≤ n'; omega, f5, k0, fun _ => ⟨v1, g.far (by show m ≤ n'; omega) fun id hid _ => f11 id hid⟩, k2, fun _ => ⟨rfl, f1, f2, f3, f4, by show ia.d + 1 ≤ mid; omega, f7, f8, f9, f10⟩, fun h => (c4 h).elim, fun h => ?_, fun h => (c6 h).elim, d1, fun _ => ⟨s1, s2⟩, fun h => (c4 h).elim, fun h => (c6 h).elim⟩
        obtain ⟨e1, e2, e3, e4, e5, e6⟩ := k5 h
        exact ⟨e1, e2, by show x < n'; omega, e4, fun _ => ⟨by show x ≠ mid; omega, by show x ≠ oid; omega, by show x ≠ cid; omega, by show x ≠ did; omega⟩, fun h => (f11 x e3).trans (e6 h)⟩
      | 4, ho =>
        have := Option.some.inj ho
        subst this
        have s1 := hbf 1 (by decide)
        have s3 := hbf 3 (by decide)
        have c6 : S 6 = true → False := fun h => by have := (d6 h).1; rw [hj] at this; cases this
        simp +contextual only [go_sem, ↓reduceIte, Nat.reduceEqDiff, Nat.reduceAdd, Nat.reduceLeDiff, Nat.reduceLT, reduceCtorEq, (k1 s1).1, (k3 s3).1, outI, outP]
        exact ⟨ia, ib, x, t2, t3, t4, t5, h0, h1, h2, h3, n4, un, k0, k1, k2, k3, fun _ => rfl, k5, fun h => (c6 h).elim, d1, d3, fun _ => ⟨s1, s3⟩, fun h => (c6 h).elim⟩
      | 5, ho =>
        have := Option.some.inj ho
        subst this
        have c6 : S 6 = true → False := fun h => by have := (d6 h).2; rw [hj] at this; cases this
        have u0 := un m (Nat.le_refl _)
        simp +contextual only [go_sem, ↓reduceIte, Nat.reduceEqDiff, Nat.reduceAdd, Nat.reduceLeDiff, Nat.reduceLT, reduceCtorEq, u0]
        refine ⟨ia, ib, m, t2, t3, t4, t5, (updH_ne (by omega)).trans h0, (updH_ne (by omega)).trans h1, (updH_ne (by omega)).trans h2, (updH_ne (by omega)).trans h3, by show 4 ≤ m + 1; omega, fun id hid => (updH_ne (by have : m + 1 ≤ id := hid; omega)).trans (un id (by have : m + 1 ≤ id := hid; omega)), k0, fun h => ⟨(k1 h).1, (k1 h).2.far (by show m ≤ m + 1; omega) fun id hid _ => updH_ne (by omega)⟩, k2, fun h => ⟨(k3 h).1, (k3 h).2.far (by show m ≤ m + 1; omega) fun id hid _ => updH_ne (by omega)⟩, k4, fun _ => ⟨rfl, n4, by show m < m + 1; omega, fun h => ?_, fun h => ?_, fun _ => updH_at⟩, fun h => (c6 h).elim, d1, d3, d4, fun h => (c6 h).elim⟩
        · obtain ⟨w1, w2, w3, w4, w5, w6, w7, w8, w9⟩ := (k1 h).2
          exact ⟨by omega, by omega, by omega, by omega⟩
        · obtain ⟨w1, w2, w3, w4, w5, w6, w7, w8, w9⟩ := (k3 h).2
          exact ⟨by omega, by omega, by omega, by omega⟩
      | 6, ho =>
        have := Option.some.inj ho
        subst this
        have s1 := hbf 1 (by decide)
        have s3 := hbf 3 (by decide)
        have s4 := hbf 4 (by decide)
        have s5 := hbf 5 (by decide)
        obtain ⟨e1, e2, e3, e4, e5, e6⟩ := k5 s5
        obtain ⟨y1, y2, y3, y4⟩ := e4 s1
        obtain ⟨y5, y6, y7, y8⟩ := e5 s3
        simp +contextual only [go_sem, ↓reduceIte, Nat.reduceEqDiff, Nat.reduceAdd, Nat.reduceLeDiff, Nat.reduceLT, reduceCtorEq, e1, e6 hj, k4 s4]
        refine ⟨ia, ib, x, t2, t3, t4, t5, (updH_ne (by omega)).trans h0, (updH_ne (by omega)).trans h1, (updH_ne (by omega)).trans h2, (updH_ne (by omega)).trans h3, by show 4 ≤ m + 1; omega, fun id hid => (updH_ne (by have : m + 1 ≤ id := hid; omega)).trans (un id (by have : m + 1 ≤ id := hid; omega)), k0, fun h => ⟨(k1 h).1, (k1 h).2.far (by show m ≤ m + 1; omega) fun id hid hor => updH_ne (by omega)⟩, k2, fun h => ⟨(k3 h).1, (k3 h).2.far (by show m ≤ m + 1; omega) fun id hid hor => updH_ne (by omega)⟩, k4, fun _ => ⟨e1, e2, by show x < m + 1; omega, e4, e5, fun h => by cases h⟩, fun _ => updH_at, d1, d3, d4, fun _ => ⟨s4, s5⟩⟩
      | k + 7, ho => cases ho
    · rintro S ⟨τ, H, m⟩ hall ⟨ia, ib, x, hJ⟩
      obtain ⟨t2, t3, t4, t5, h0, h1, h2, h3, n4, un, k0, k1, k2, k3, k4, k5, k6, d1, d3, d4, d6⟩ := hJ
      dsimp only at t2 t3 t4 t5 h0 h1 h2 h3 n4 un k0 k1 k2 k3 k4 k5 k6
      obtain ⟨_, w1, w2, w3, w4, w5, w6, w7, w8, w9⟩ := k1 (hall 1 (by decide))
      obtain ⟨_, v1, v2, v3, v4, v5, v6, v7, v8, v9⟩ := k3 (hall 3 (by decide))
      obtain ⟨e1, e2, e3, e4, e5, _⟩ := k5 (hall 5 (by decide))
      obtain ⟨y1, y2, y3, y4⟩ := e4 (hall 1 (by decide))
      obtain ⟨y5, y6, y7, y8⟩ := e5 (hall 3 (by decide))
      have hx := k6 (hall 6 (by decide))
      have u0 := un m (Nat.le_refl _)
      clear k0 k1 k2 k3 k4 k5 k6 d1 d3 d4 d6 e4 e5 hall
      simp +contextual only [go_sem, ↓reduceIte, Nat.reduceEqDiff, Nat.reduceAdd, Nat.reduceLeDiff, Nat.reduceLT, reduceCtorEq, k8, t2, t3, t4, t5, e1, u0]
      refine TriI.loopL hg k8 [0, 1, 2, 3] (fun i (_ : Unit) => stS a b i) (fun xs _ => (xs.length ≤ 3 → conR a b = false) ∧ (xs.length ≤ 1 → overR a b = false) ∧ (xs.length ≤ 0 → overD a b = false)) () (.renQ [some 0, some 1, some 2, some 3, some ia.m, some ia.o, some ia.c, some ia.d, some ib.m, some ib.o, some ib.c, some ib.d, some x, some m] ?_ rfl 0 ?_) ⟨by simp, by simp, by simp⟩ ?_ ?_
      · simp [maskI, idsB]
        omega
      · have b0 : (0 = m) = False := by simp; omega
        have b1 : (1 = m) = False := by simp; omega
        have b2 : (2 = m) = False := by simp; omega
        have b3 : (3 = m) = False := by simp; omega
        have b4 : (ia.m = m) = False := by simp; omega
        have b5 : (ia.o = m) = False := by simp; omega
        have b6 : (ia.c = m) = False := by simp; omega
        have b7 : (ia.d = m) = False := by simp; omega
        have b8 : (ib.m = m) = False := by simp; omega
        have b9 : (ib.o = m) = False := by simp; omega
        have b10 : (ib.c = m) = False := by simp; omega
        have b11 : (ib.d = m) = False := by simp; omega
        have b12 : (x = m) = False := by simp; omega
        simp +contextual only [go_sem, ↓reduceIte, Nat.reduceEqDiff, Nat.reduceAdd, Nat.reduceLeDiff, Nat.reduceLT, reduceCtorEq, b0, b1, b2, b3, b4, b5, b6, b7, b8, b9, b10, b11, b12, h0, h1, h2, h3, w1, w2, w3, w4, v1, v2, v3, v4, hx, t2, t3, t4, t5, e1, bk_ints, bk_obs, bk_cdrs, bk_diss]
        rfl
      · rintro _ ⟨g1, g2, g3⟩
        have g1 := g1 (by simp)
        have g2 := g2 (by simp)
        have g3 := g3 (by simp)
        have hr : syncS a b = (newA a b a.name b.name, newA b a a.name b.name, 0) := by rw [syncS, g1, cond_false, g2, cond_false, g3, cond_false]
        have ta : ((a.cdrs ++ misR b a).map Cod.enc : List V).take (a.cdrs ++ misR b a).length = (a.cdrs ++ misR b a).map Cod.enc := List.take_of_length_le (by simp)
        have tb : ((b.cdrs ++ misR a b).map Cod.enc : List V).take (b.cdrs ++ misR a b).length = (b.cdrs ++ misR a b).map Cod.enc := List.take_of_length_le (by simp)
        rw [hr]
        rw [stS4]
        dsimp only [st4, ob4, halfC]
        unfold newA
        clear hr
        generalize hA : a.cdrs ++ misR b a = A at ta ⊢
        generalize hB : b.cdrs ++ misR a b = B at tb ⊢
        generalize dsX a b a.name b.name = sA
        generalize dsX b a a.name b.name = sB
        generalize dirA a b = dA
        generalize dirA b a = dB
        simp +contextual only [go_sem, ↓reduceIte, Nat.reduceEqDiff, Nat.reduceAdd, Nat.reduceLeDiff, Nat.reduceLT, reduceCtorEq, k8, Int.lt_irrefl, decide_false, List.length_map, ta, tb, isF_cdrs, isF_obs, isF_ints, isF_diss, decL_enc Cod.dec_enc, Nat.zero_add, List.drop_zero, Nat.le_refl]
        rfl
      · rintro i _ z zs hdr hlt _ ⟨g1, g2, g3⟩
        clear hx h0 h1 h2 h3 un t2 t3 t4 t5 w1 w2 w3 w4 w5 w6 w7 w8 w9 v1 v2 v3 v4 v5 v6 v7 v8 v9 e1 e2 e3 y1 y2 y3 y4 y5 y6 y7 y8 u0
        have n04 : (0 : Int) < ((4 : Nat) : Int) := by decide
        have n14 : (1 : Int) < ((4 : Nat) : Int) := by decide
        have n24 : (2 : Int) < ((4 : Nat) : Int) := by decide
        have n34 : (3 : Int) < ((4 : Nat) : Int) := by decide
        have p1 : (0 : Int) ≤ 1 := by decide
        have p2 : (0 : Int) ≤ 2 := by decide
        have p3 : (0 : Int) ≤ 3 := by decide
        have o1 : Int.toNat 1 = 1 := rfl
        have o2 : Int.toNat 2 = 2 := rfl
        have o3 : Int.toNat 3 = 3 := rfl
        have l04 : decide ((0 : Int) < 4) = true := rfl
        have l14 : decide ((1 : Int) < 4) = true := rfl
        have l24 : decide ((2 : Int) < 4) = true := rfl
        have l34 : decide ((3 : Int) < 4) = true := rfl
        match i, hlt with
        | 0, _ =>
          have hzs : zs = [1, 2, 3] := by simpa using (List.cons.inj hdr).2.symm
          subst hzs
          rw [stS0]
          simp +contextual only [go_sem, ↓reduceIte, Nat.reduceEqDiff, Nat.reduceAdd, Nat.reduceLeDiff, Nat.reduceLT, reduceCtorEq, k8, l04, n04, Int.le_refl, Int.toNat_zero, fnsO, and_self]
          refine CallT.of_walk hg k21 ic21 (by simp) fun C1 hlow1 => ?_
          have hl1 : LowC C1 14 := hlow1 14 (by repeat (first | exact LowT.pnil | apply LowT.upd | apply LowT.prune | apply LowT.pcons | rfl | exact low_cdrs _ _ | exact low_diss _ _)) (LowC.top _ _)
          simp +contextual only [go_sem, ↓reduceIte, Nat.reduceEqDiff, Nat.reduceAdd, Nat.reduceLeDiff, Nat.reduceLT, reduceCtorEq, c21, k21, h40, cb, ib', takeM, List.length_map, isF_cdrs, isF_obs, isF_ints, isF_diss, decL_enc Cod.dec_enc, Nat.zero_add, List.drop_zero, Nat.le_refl, and_self]
          refine TriI.loopL hg k21 a.cdrs (fun i (_ : Unit) => ⟨slotsL [(3, .mapf (keysM (kvM CdrD.id b.cdrs)) (valsM (kvM CdrD.id b.cdrs))), (17, .own 6 0 a.cdrs.length), (18, .sc (.int .i64 a.cdrs.length)), (19, .sc (.int .i64 i))],
              objsL (ob1 a b), 14⟩)
            (fun xs _ => xs.any (conB b.cdrs) = conR a b) () (.back rfl ?_) rfl ?_ ?_
          · simp +contextual only [go_sem, ↓reduceIte, Nat.reduceEqDiff, Nat.reduceAdd, Nat.reduceLeDiff, Nat.reduceLT, reduceCtorEq, List.length_map, low_cdrs, low_obs, low_diss, low_ints]
            rfl
          · intro _ hinv
            have hc : conR a b = false := by rw [← hinv]; rfl
            simp +contextual only [go_sem, ↓reduceIte, Nat.reduceEqDiff, Nat.reduceAdd, Nat.reduceLeDiff, Nat.reduceLT, reduceCtorEq, k21, k8, Int.lt_irrefl, decide_false, List.length_map]
            refine ⟨(), ⟨fun _ => hc, fun h => absurd h (by simp), fun h => absurd h (by simp)⟩, ?_⟩
            show LeF C.ctx _ (st1 a b)
            refine .back rfl ?_
            simp +contextual only [go_sem, ↓reduceIte, Nat.reduceEqDiff, Nat.reduceAdd, Nat.reduceLeDiff, Nat.reduceLT, reduceCtorEq, List.length_map, low_cdrs, low_obs, low_diss, low_ints]
            rfl
          · intro i _ x xs hdr hlt hx hinv
            have hw := wrap_nat hlt (by omega)
            have hlt' : ((i : Nat) : Int) < ((a.cdrs.length : Nat) : Int) := Int.ofNat_lt.2 hlt
            rw [List.any_cons] at hinv
            have hlk := look_kv CdrD.id x.id b.cdrs
            have x1 := okIt_mem hai (List.mem_of_getElem? hx)
            cases e : getI CdrD.id b.cdrs x.id with
            | none =>
              rw [e] at hlk
              have hcb : conB b.cdrs x = false := by rw [conB, e]
              rw [hcb, Bool.false_or] at hinv
              simp +contextual only [go_sem, ↓reduceIte, Nat.reduceEqDiff, Nat.reduceAdd, Nat.reduceLeDiff, Nat.reduceLT, reduceCtorEq, k21, lt_dec hlt, hlt', Nat.zero_add, hx, hw, hlk, List.length_map, List.getElem?_map, Option.map_some, Int.natCast_nonneg, Int.toNat_natCast]
              refine ⟨(), hinv, .back rfl ?_⟩
              simp +contextual only [go_sem, ↓reduceIte, Nat.reduceEqDiff, Nat.reduceAdd, Nat.reduceLeDiff, Nat.reduceLT, reduceCtorEq, List.length_map, low_cdrs, low_obs, low_diss, low_ints]
            | some o =>
              rw [e] at hlk
              have x2 := okIt_mem hbi (mem_get e).1
              have hcb : conB b.cdrs x = !eqC x o := by rw [conB, e]
              rw [hcb] at hinv
              simp +contextual only [go_sem, ↓reduceIte, Nat.reduceEqDiff, Nat.reduceAdd, Nat.reduceLeDiff, Nat.reduceLT, reduceCtorEq, k21, k8, lt_dec hlt, hlt', Nat.zero_add, hx, hw, hlk, h28, x1, x2, and_self, List.length_map, List.getElem?_map, Option.map_some, Int.natCast_nonneg, Int.toNat_natCast]
              refine ⟨fun h => ⟨fun _ => ?_, fun h => absurd h (by decide)⟩, fun h => ⟨(), ?_, .back rfl ?_⟩⟩
              · rw [h, Bool.true_or] at hinv
                have hs : syncS a b = (a, b, 23) := by rw [syncS, ← hinv, cond_true]
                rw [hs]
                exact ⟨rfl, rfl⟩
              · rw [h, Bool.false_or] at hinv
                exact hinv
              · simp +contextual only [go_sem, ↓reduceIte, Nat.reduceEqDiff, Nat.reduceAdd, Nat.reduceLeDiff, Nat.reduceLT, reduceCtorEq, List.length_map, low_cdrs, low_obs, low_diss, low_ints]
        | 1, _ =>
          have hzs : zs = [2, 3] := by simpa using (List.cons.inj hdr).2.symm
          subst hzs
          have hc := g1 (by simp)
          rw [stS1]
          have qa := (valid_iff _).1 wa.dir
          have qb := (valid_iff _).1 wb.dir
          have qa1 : (a.dir.marks.length = a.dir.objects.length) = True := eq_true qa.len
          have qb1 : (b.dir.marks.length = b.dir.objects.length) = True := eq_true qb.len
          have qa2 := qa.max
          have qb2 := qb.max
          have ra := ha.o
          have rb := hb.o
          obtain ⟨dA, mA, hA⟩ : ∃ d n, mergeS a.dir (newsD b.dir.objects b.dir.marks 0) = (d, n) := ⟨_, _, rfl⟩
          obtain ⟨dB, mB, hB⟩ : ∃ d n, mergeS b.dir (newsD a.dir.objects a.dir.marks 0) = (d, n) := ⟨_, _, rfl⟩
          have hA' : mergeS ⟨a.dir.party, a.dir.objects, a.dir.marks, a.dir.next⟩ (newsD b.dir.objects b.dir.marks 0) = (dA, mA) := hA
          have hB' : mergeS ⟨b.dir.party, b.dir.objects, b.dir.marks, b.dir.next⟩ (newsD a.dir.objects a.dir.marks 0) = (dB, mB) := hB
          have vA' : validDir ⟨a.dir.party, a.dir.objects, a.dir.marks, a.dir.next⟩ = 0 := wa.dir
          have vB' : validDir ⟨b.dir.party, b.dir.objects, b.dir.marks, b.dir.next⟩ = 0 := wb.dir
          have hdA : dirA a b = dA := by rw [dirA, newsR, hA]
          have hdB : dirA b a = dB := by rw [dirA, newsR, hB]
          have kA := newsD_len a.dir.objects a.dir.marks 0
          have kB := newsD_len b.dir.objects b.dir.marks 0
          have e1 : (newsD a.dir.objects a.dir.marks 0).length ≤ 100000 := by omega
          have e2 : (newsD b.dir.objects b.dir.marks 0).length ≤ 100000 := by omega
          have e3 : a.dir.next + ((newsD b.dir.objects b.dir.marks 0).length : Int) ≤ 4611686018427387904 := by omega
          have e4 : b.dir.next + ((newsD a.dir.objects a.dir.marks 0).length : Int) ≤ 4611686018427387904 := by omega
          simp +contextual only [go_sem, ↓reduceIte, Nat.reduceEqDiff, Nat.reduceAdd, Nat.reduceLeDiff, Nat.reduceLT, reduceCtorEq, k8, l14, n14, p1, o1, fnsO, and_self]
          refine CallT.of_walk hg k22 ic22 (by simp) fun C1 hlow1 => ?_
          simp +contextual only [go_sem, ↓reduceIte, Nat.reduceEqDiff, Nat.reduceAdd, Nat.reduceLeDiff, Nat.reduceLT, reduceCtorEq, c22, k22, h41, h42, ra, rb, qa1, qb1, da, db, vA', vB', hA', hB', e1, e2, e3, e4, takeM, List.length_map, isF_obs, isF_ints, decL_enc Cod.dec_enc, Nat.zero_add, List.drop_zero, Nat.le_refl, and_self, k8]
          refine ⟨(), ⟨fun _ => hc, fun h => absurd h (by simp), fun h => absurd h (by simp)⟩, ?_⟩
          show LeF C.ctx _ (st2 a b)
          dsimp only [st2, ob2, halfC]
          rw [hdA, hdB]
          refine .renQ [some 0, some 1, some 2, some 3, some 4, some 5, some 6, some 7, some 8, some 9, some 10, some 11, some 12, some 13] rfl rfl 0 ?_
          simp +contextual only [go_sem, ↓reduceIte, Nat.reduceEqDiff, Nat.reduceAdd, Nat.reduceLeDiff, Nat.reduceLT, reduceCtorEq, List.length_map, low_cdrs, low_obs, low_diss, low_ints, bk_ints, bk_obs, bk_cdrs, bk_diss, holdsQ_froz]
          rfl
        | 2, _ =>
          have hzs : zs = [3] := by simpa using (List.cons.inj hdr).2.symm
          subst hzs
          have hc := g1 (by simp)
          rw [stS2]
          simp +contextual only [go_sem, ↓reduceIte, Nat.reduceEqDiff, Nat.reduceAdd, Nat.reduceLeDiff, Nat.reduceLT, reduceCtorEq, k8, l24, n24, p2, o2, fnsO, and_self]
          refine CallT.of_walk hg k23 ic23 (by simp) fun C1 hlow1 => ?_
          simp +contextual only [go_sem, ↓reduceIte, Nat.reduceEqDiff, Nat.reduceAdd, Nat.reduceLeDiff, Nat.reduceLT, reduceCtorEq, c23, k23]
          refine TriI.ofDrw hg k23 ?_
          have kA : (misR b a).length ≤ b.cdrs.length := List.length_filter_le _ _
          have kB : (misR a b).length ≤ a.cdrs.length := List.length_filter_le _ _
          have wac := wa.c
          have wbc := wb.c
          have hwa : IntKind.i64.wrap ((a.cdrs.length : Int) + ((misR b a).length : Int)) = (a.cdrs.length : Int) + ((misR b a).length : Int) := by rw [IntKind.wrap_i64]; omega
          have hwb : IntKind.i64.wrap ((b.cdrs.length : Int) + ((misR a b).length : Int)) = (b.cdrs.length : Int) + ((misR a b).length : Int) := by rw [IntKind.wrap_i64]; omega
          have f1 : (a.cdrs.length + (misR b a).length) * 184 ≤ 68719476736 := by omega
          have f2 : a.cdrs.length + (misR b a).length ≤ 4294967296 := by omega
          have f3 : (b.cdrs.length + (misR a b).length) * 184 ≤ 68719476736 := by omega
          have f4 : b.cdrs.length + (misR a b).length ≤ 4294967296 := by omega
          have m1 : ∀ d e l k, misR ⟨b.name, d, b.cdrs, l⟩ ⟨a.name, e, a.cdrs, k⟩ = misR b a := fun _ _ _ _ => rfl
          have m2 : ∀ d e l k, misR ⟨a.name, d, a.cdrs, l⟩ ⟨b.name, e, b.cdrs, k⟩ = misR a b := fun _ _ _ _ => rfl
          simp +contextual only [go_sem, ↓reduceIte, Nat.reduceEqDiff, Nat.reduceAdd, Nat.reduceLeDiff, Nat.reduceLT, reduceCtorEq, k23, h43, ca, cb, hai, hbi, ia', ib', m1, m2, hwa, hwb, f1, f2, f3, f4, okE_cdrs, takeM, List.length_map, isF_cdrs, isF_diss, decL_enc Cod.dec_enc, Nat.zero_add, List.drop_zero, Nat.le_refl, and_self, k8]
          refine ⟨rfl, fun h => ⟨fun _ => ⟨rfl, ?_⟩, fun h => absurd h (by decide)⟩, fun h => ⟨(), ⟨fun _ => hc, fun _ => h, fun h => absurd h (by simp)⟩, ?_⟩⟩
          · rw [syncS, hc, cond_false, show overR a b = true from h, cond_true]
          · show LeF C.ctx _ (st3 a b)
            dsimp only [st3, ob3, halfC]
            rw [List.length_append, List.length_append, List.map_append, List.map_append]
            refine .renQ [some 0, some 1, some 2, some 3, some 4, some 5, some 36, some 7, some 8, some 9, some 38, some 11, some 12, some 13] rfl rfl 0 ?_
            simp +contextual only [go_sem, ↓reduceIte, Nat.reduceEqDiff, Nat.reduceAdd, Nat.reduceLeDiff, Nat.reduceLT, reduceCtorEq, List.length_map, low_cdrs, low_obs, low_diss, low_ints, bk_ints, bk_obs, bk_cdrs, bk_diss, holdsQ_froz, List.all_append]
            rfl
        | 3, _ =>
          have hzs : zs = [] := by simpa using (List.cons.inj hdr).2.symm
          subst hzs
          have hc := g1 (by simp)
          have ho := g2 (by simp)
          rw [stS3]
          simp +contextual only [go_sem, ↓reduceIte, Nat.reduceEqDiff, Nat.reduceAdd, Nat.reduceLeDiff, Nat.reduceLT, reduceCtorEq, k8, l34, n34, p3, o3, fnsO, and_self]
          refine CallT.of_walk hg k24 ic24 (by simp) fun C1 hlow1 => ?_
          have wad := wa.d
          have wbd := wb.d
          have nda := wa.dids
          have ndb := wb.dids
          have kA : (misR b a).length ≤ b.cdrs.length := List.length_filter_le _ _
          have kB : (misR a b).length ≤ a.cdrs.length := List.length_filter_le _ _
          have r1 : (a.cdrs ++ misR b a).length ≤ 10000 := by have := wa.c; have := wb.c; rw [List.length_append]; omega
          have r2 : (b.cdrs ++ misR a b).length ≤ 10000 := by have := wa.c; have := wb.c; rw [List.length_append]; omega
          have s1 : a.disputes.length ≤ 10000 := by omega
          have s2 : b.disputes.length ≤ 10000 := by omega
          have pA : ∀ x y, (pairDs (halfP a b) x y).length ≤ 10000 := fun x y => Nat.le_trans (List.length_filter_le _ _) s1
          have pB : ∀ x y, (pairDs (halfP b a) x y).length ≤ 10000 := fun x y => Nat.le_trans (List.length_filter_le _ _) s2
          have e1 : (⟨a.name, dirA a b, a.cdrs ++ misR b a, a.disputes⟩ : PartyD) = halfP a b := rfl
          have e2 : (⟨b.name, dirA b a, b.cdrs ++ misR a b, b.disputes⟩ : PartyD) = halfP b a := rfl
          have e3 : mgD a.disputes (pairDs (halfP b a) a.name b.name) = dsX a b a.name b.name := rfl
          have e4 : mgD b.disputes (pairDs (halfP a b) a.name b.name) = dsX b a a.name b.name := rfl
          have q1 : (halfP a b).cdrs.length ≤ 10000 := r1
          have q2 : (halfP b a).cdrs.length ≤ 10000 := r2
          have q3 : (halfP a b).disputes.length ≤ 10000 := s1
          have q4 : (halfP b a).disputes.length ≤ 10000 := s2
          simp +contextual only [go_sem, ↓reduceIte, Nat.reduceEqDiff, Nat.reduceAdd, Nat.reduceLeDiff, Nat.reduceLT, reduceCtorEq, c24, k24, h29, h44, q1, q2, q3, q4, r1, r2, s1, s2, e1, e2, e3, e4, pA, pB, nda, ndb, takeM, isF_cdrs, isF_diss, isF_obs, isF_ints, decL_enc Cod.dec_enc, Nat.zero_add, Nat.le_refl, List.drop_zero, List.length_map, and_self]
          refine ⟨rfl, rfl, fun h => ⟨fun _ => ⟨rfl, ?_⟩, fun h => absurd h (by decide)⟩, fun h => ⟨(), ⟨fun _ => hc, fun _ => ho, fun _ => h⟩, ?_⟩⟩
          · rw [syncS, hc, cond_false, ho, cond_false, show overD a b = true from h, cond_true]
          · show LeF C.ctx _ (st4 a b)
            dsimp only [st4, ob4, halfC]
            refine .renQ [some 0, some 1, some 2, some 3, some 4, some 5, some 6, some 7, some 8, some 9, some 10, some 11, some 12, some 13] rfl rfl 0 ?_
            simp +contextual only [go_sem, ↓reduceIte, Nat.reduceEqDiff, Nat.reduceAdd, Nat.reduceLeDiff, Nat.reduceLT, reduceCtorEq, List.length_map, low_cdrs, low_obs, low_diss, low_ints, bk_ints, bk_obs, bk_cdrs, bk_diss, holdsQ_froz]
            rfl
        | k + 4, hlt => exact absurd hlt (by simp)
  · cases h
end Go.Proofs.Ytalhbhbkdfmhgaa
