/- The energy of each minute. -/
import Derived.Test.YtdidgmhkgcblhaaMerge20
namespace Go.Proofs.Ytdidgmhkgcblhaa
set_option linter.all false
open Go.Idl
set_option maxHeartbeats 4000000
set_option maxRecDepth 100000
attribute [local go_sem] Try.underlying3 Try.underlying5 Try.underlying9 Try.underlying4 agBool agInt agErr agInts
def mn (e n : Int) (k : Nat) : Int := e * ((k : Int) + 1) / n - e * (k : Int) / n
def mns (e n : Int) (c : Nat) : List Int := (List.range c).map (mn e n)
theorem mns_len (e n : Int) (c : Nat) : (mns e n c).length = c := by simp [mns]
theorem mns_succ (e n : Int) (c : Nat) : mns e n (c + 1) = mns e n c ++ [mn e n c] := by simp [mns, List.range_succ]
theorem asc_at : ∀ {l : List Rdg} {i : Nat} {x y : Rdg}, asc l = true → l[i]? = some x → l[i + 1]? = some y → x.time < y.time
  | [], i, x, y, _, h, _ => by simp at h
  | [a], 0, x, y, _, _, h => by simp at h
  | a :: b :: l, 0, x, y, h, h1, h2 => by simp at h1 h2; subst h1 h2; simp [asc] at h; exact h.1
  | a :: l, i + 1, x, y, h, h1, h2 => by
    refine asc_at (l := l) (i := i) ?_ (by simpa using h1) (by simpa using h2)
    cases l with
    | nil => rfl
    | cons b l => simp [asc] at h; exact h.2
/-- What an energy comes to in a minute stays small. -/
theorem mn_bounds {e n : Int} {k : Nat} (h0 : 0 ≤ e) (h1 : e < 1099511627776) (hn : 0 < n) (hk : (k : Int) < n) (hn2 : n ≤ 20160) :
    (0 ≤ e * ((k : Int) + 1) ∧ e * ((k : Int) + 1) ≤ 9223372036854775807) ∧ (0 ≤ e * (k : Int) ∧ e * (k : Int) ≤ 9223372036854775807) ∧ (0 ≤ e * ((k : Int) + 1) / n ∧ e * ((k : Int) + 1) / n ≤ 1099511627776) ∧ (0 ≤ e * (k : Int) / n ∧ e * (k : Int) / n ≤ 1099511627776) := by
  have a1 : 0 ≤ e * ((k : Int) + 1) := Int.mul_nonneg h0 (by omega)
  have a2 : 0 ≤ e * (k : Int) := Int.mul_nonneg h0 (by omega)
  have b1 : e * ((k : Int) + 1) ≤ e * n := Int.mul_le_mul_of_nonneg_left (by omega) h0
  have b2 : e * (k : Int) ≤ e * n := Int.mul_le_mul_of_nonneg_left (by omega) h0
  have b3 : e * n ≤ 1099511627776 * 20160 := Int.mul_le_mul (by omega) hn2 (by omega) (by omega)
  have c0 : e * n / n = e := Int.mul_ediv_cancel _ (by omega)
  have c1 : e * ((k : Int) + 1) / n ≤ e * n / n := Int.ediv_le_ediv hn b1
  have c2 : e * (k : Int) / n ≤ e * n / n := Int.ediv_le_ediv hn b2
  have d1 : 0 ≤ e * ((k : Int) + 1) / n := Int.ediv_nonneg a1 (by omega)
  have d2 : 0 ≤ e * (k : Int) / n := Int.ediv_nonneg a2 (by omega)
  omega
def minL (m : Int) : List Rdg → List Int
  | x :: y :: l => mns (bt m x y) (y.time - x.time) (y.time - x.time).toNat ++ minL m (y :: l)
  | _ => []
theorem minL_drop (m : Int) : ∀ {l : List Rdg} {i : Nat} {x y : Rdg}, l[i]? = some x → l[i + 1]? = some y → minL m (l.drop i) = mns (bt m x y) (y.time - x.time) (y.time - x.time).toNat ++ minL m (l.drop (i + 1))
  | [], i, x, y, h, _ => by simp at h
  | [a], 0, x, y, _, h => by simp at h
  | a :: b :: l, 0, x, y, h1, h2 => by simp at h1 h2; subst h1 h2; rfl
  | a :: l, i + 1, x, y, h1, h2 => by simpa using minL_drop m (l := l) (by simpa using h1) (by simpa using h2)
theorem minL_end (m : Int) {l : List Rdg} {i : Nat} (h : l.length ≤ i + 1) : minL m (l.drop i) = [] := by
  have : (l.drop i).length ≤ 1 := by simp; omega
  match l.drop i, this with
  | [], _ => rfl
  | [a], _ => rfl
theorem minL_len (m : Int) : ∀ {l : List Rdg}, asc l = true → l ≠ [] → ((minL m l).length : Int) = lastTm l - firstTm l ∧ firstTm l ≤ lastTm l
  | [], _, h => absurd rfl h
  | [a], _, _ => by simp [minL, lastTm, firstTm]
  | a :: b :: l, h, _ => by
    simp only [asc, Bool.and_eq_true, decide_eq_true_eq] at h
    obtain ⟨e1, e2⟩ := minL_len m (l := b :: l) h.2 (by simp)
    have f1 : firstTm (a :: b :: l) = a.time := rfl
    have f2 : firstTm (b :: l) = b.time := rfl
    have f3 : lastTm (a :: b :: l) = lastTm (b :: l) := by simp [lastTm]
    rw [f1, f3]
    rw [f2] at e1 e2
    simp only [minL, List.length_append, mns_len]
    push_cast
    have := h.1
    omega
def minS (l : List Rdg) (m : Int) : List Int × Int := bif valS l m != 0 then ([], valS l m) else bif decide (lastTm l - firstTm l > 20160) then ([], 3) else (minL m l, 0)
abbrev SMin : List V → Option V := FT fun (t : List Rdg × Int × Unit) => some (minS t.1 t.2.1)
theorem low_ints (n : Nat) (l : List Int) : (l.map Cod.enc).all (V.low n) = true := by
  simp only [List.all_map, List.all_eq_true]
  intro x _
  rfl
theorem isF_ints (l : List Int) : (l.map Cod.enc).all V.isF = true := by
  simp only [List.all_map, List.all_eq_true]
  intro x _
  rfl
theorem bkL_ints (f : Nat → Option (Option Nat)) (l : List Int) : bkL (V.bk f) (l.map Cod.enc) = some (l.map Cod.enc) := by
  induction l with
  | nil => rfl
  | cons a l ih => simp only [List.map_cons, bkL, ih]; rfl
theorem holdsQ_idle (f : Nat → Option (Option Nat)) (H : Heap) (m0 k : Nat) (ids : List (Option Nat)) (O : List Idl.Obj) : holdsQ f H m0 (some k :: ids) (Bk.idle :: O) = (H k = Bk.idle ∧ holdsQ f H m0 ids O) := by
  simp [holdsQ, oneQ, Bk.idle, Idl.Obj.low, Ext.low]
theorem holdsQ_rcd {C : Ctx} {N : Nat} {s : SF} {ps : List Nat} {x y : IC} (B : Bk Try.prog C N s ps x y) (st : LoopState) (pe : Option Code) (f : Nat → Option (Option Nat)) (H : Heap) (m0 k : Nat) (ids : List (Option Nat)) (O : List Idl.Obj) : holdsQ f H m0 (some k :: ids) (B.rcd st pe :: O) = (H k = B.rcd st pe ∧ holdsQ f H m0 ids O) := by
  simp [holdsQ, oneQ, Bk.rcd, Idl.Obj.low, Ext.low]
theorem con15 {Φ : Specs} (hg : Idl.Good Try.prog Φ) (h26 : Φ 26 = none) (h10 : Φ 10 = some SVal) (h27 : Φ 27 = some SDelta) : Contract Try.prog 15 SMin := by
  refine conM hg ic15 (by decide) fun C t r h => ?_
  obtain ⟨l, m, u⟩ := t
  cases h
  refine TopI.seq (TopI.tri hg k15 ?_)
  simp +contextual only [go_sem, ↓reduceIte, Nat.reduceEqDiff, Nat.reduceAdd, Nat.reduceLeDiff, Nat.reduceLT, reduceCtorEq, k15]
  refine TopI.seq (TopI.tri hg k15 ?_)
  simp +contextual only [go_sem, ↓reduceIte, Nat.reduceEqDiff, Nat.reduceAdd, Nat.reduceLeDiff, Nat.reduceLT, reduceCtorEq, k15, h10]
  refine ⟨fun h => ?_, fun h => ?_⟩
  · simp only [minS, h, cond_true]
  have hz : valS l m = 0 := by simpa using h
  have hv := valS_ok hz
  have hl := hv.len
  have hne := List.length_pos_iff.2 hv.ne
  have hw1 : IntKind.i64.wrap ((l.length : Int) - 1) = ((l.length - 1 : Nat) : Int) := by rw [IntKind.wrap_i64]; omega
  have hx : l[0]? = some l[0] := by simp
  have hy : l[l.length - 1]? = some l[l.length - 1] := by simp
  have e1 : l[0].time = firstTm l := by simp [firstTm, List.head?_eq_getElem?, hx]
  have e2 : l[l.length - 1].time = lastTm l := by simp [lastTm, List.getLast?_eq_getElem?, hy]
  have z0 : (0 : Int).toNat = 0 := rfl
  obtain ⟨q1, q2⟩ := minL_len m hv.asc hv.ne
  have o1 := rOk_at hv hx
  have o2 := rOk_at hv hy
  rw [e1] at o1
  rw [e2] at o2
  have hw2 : IntKind.i64.wrap (lastTm l - firstTm l) = lastTm l - firstTm l := by rw [IntKind.wrap_i64]; omega
  refine TopI.seq (TopI.tri hg k15 ?_)
  simp +contextual only [go_sem, ↓reduceIte, Nat.reduceEqDiff, Nat.reduceAdd, Nat.reduceLeDiff, Nat.reduceLT, reduceCtorEq, k15, hw1, hx, hy, z0, e1, e2, hw2, List.length_map, List.getElem?_map, Option.map_some, Int.natCast_nonneg, Int.toNat_natCast, Int.le_refl]
  refine ⟨rfl, ?_⟩
  refine TopI.seq (TopI.tri hg k15 ?_)
  simp +contextual only [go_sem, ↓reduceIte, Nat.reduceEqDiff, Nat.reduceAdd, Nat.reduceLeDiff, Nat.reduceLT, reduceCtorEq, k15]
  refine ⟨fun h2 => ?_, fun h2 => ?_⟩
  · simp only [minS, hz, h2, bne_self_eq_false, cond_true, cond_false]
  have hs : minS l m = (minL m l, 0) := by simp only [minS, hz, h2, bne_self_eq_false, cond_false]
  rw [hs]
  have h2' : lastTm l - firstTm l ≤ 20160 := by simpa using h2
  have c1 : 0 ≤ lastTm l - firstTm l := by omega
  have c2 : lastTm l - firstTm l ≤ 4294967296 := by omega
  have c3 : 8 * (lastTm l - firstTm l).toNat ≤ 281474976710656 := by omega
  refine TopI.seq (TopI.tri hg k15 ?_)
  simp +contextual only [go_sem, ↓reduceIte, Nat.reduceEqDiff, Nat.reduceAdd, Nat.reduceLeDiff, Nat.reduceLT, reduceCtorEq, k15, c1, c2, c3, Int.le_refl, z0, List.replicate_zero, true_and, and_true]
  refine TopI.seq (TopI.seq (TopI.tri hg k15 ?_))
  simp +contextual only [go_sem, ↓reduceIte, Nat.reduceEqDiff, Nat.reduceAdd, Nat.reduceLeDiff, Nat.reduceLT, reduceCtorEq, k15, h26]
  refine CallT.of_walk hg k26 ic26 (by simp) fun C' hlow => ?_
  simp +contextual only [go_sem, ↓reduceIte, Nat.reduceEqDiff, Nat.reduceAdd, Nat.reduceLeDiff, Nat.reduceLT, reduceCtorEq, c26, k26]
  have hsl : ∀ t, (slotsL [(0, Cod.enc l), (3, .ref 0 0 0), (4, .ref 1 0 0), (5, .ref 2 0 0), (8, .ref 3 0 0), (38, .fn (.func 29) [] [.ref 4 0 0])] t).low 8 = true := low_slots fun p hp => by
    simp only [List.mem_cons, List.not_mem_nil, or_false] at hp; rcases hp with rfl | rfl | rfl | rfl | rfl | rfl <;> rfl
  refine TopI.weaken (s' := ⟨slotsL [(0, Cod.enc l), (3, .ref 0 0 0), (4, .ref 1 0 0), (5, .ref 2 0 0), (8, .ref 3 0 0), (38, .fn (.func 29) [] [.ref 4 0 0])], objsL [.live 1 [.sc (.int .i64 m)] true, .live 1 [.sc (.slice none 0 0)] true, .live 1 [.sc (.int .i64 0)] true, .live 1 [.own 5 0 0] true, .live 1 [Cod.enc l] true, .live 1 [] true], 6⟩) (.renQ [some 0, some 1, some 2, some 17, some 19, some 16] rfl rfl 0 ?_) ?_
  · simp +contextual only [go_sem, ↓reduceIte, Nat.reduceEqDiff, Nat.reduceAdd, Nat.reduceLeDiff, Nat.reduceLT, reduceCtorEq, V.bk, V.bkC, V.bkA, bkL, List.getElem?_cons_zero, List.getElem?_cons_succ]
  refine TopI.block (TopI.rfn (f := 29) (xs := []) (ys := [.ref 4 0 0]) rfl ⟨rfl, rfl⟩ fun B => ?_)
  refine CallT.of_walkK hg k29 ic29 (by simp) fun C' hC hlow => ?_
  have hlow8 : LowC C' 8 := hlow 8 hsl (B.low 8 (Nat.le_refl _) hsl (LowC.top _ _))
  have hH : ∀ a b c d e f : Idl.Obj, updH (updH (objsL [a, b, c, d, e, f]) 6 Bk.idle) 7 (B.rcd .ready none) = objsL [a, b, c, d, e, f, Bk.idle, B.rcd .ready none] := fun a b c d e f => by
    rw [objsL_psh (k := 6) (O := [_, _, _, _, _, _]) rfl, objsL_psh (k := 7) (O := [_, _, _, _, _, _] ++ [_]) rfl]; rfl
  change walkI _ _ _ _ _ _ ⟨pars [.sc (.func (.yield B.l) #[] #[]), .ref 4 0 0], updH (updH (objsL [.live 1 [.sc (.int .i64 m)] true, .live 1 [.sc (.slice none 0 0)] true, .live 1 [.sc (.int .i64 0)] true, .live 1 [.own 5 0 0] true, .live 1 [Cod.enc l] true, .live 1 [] true]) 6 Bk.idle) 7 (B.rcd .ready none), 8⟩ _
  rw [hH]
  refine eachR hg l (by omega) B.l 4 9 8 (fun a : List Int => [.live 1 [.sc (.int .i64 m)] true, .live 1 [.sc (.slice none 0 0)] true, .live 1 [.sc (.int .i64 0)] true, .live 1 [.own 8 0 a.length] true, .live 1 [Cod.enc l] true, .dead, Bk.idle, B.rcd .ready none, .live 1 (a.map Cod.enc) true]) (fun _ => rfl) (fun _ => rfl)
    (by decide) hlow8 (by decide) _ _ [] ⟨[some 0, some 1, some 2, some 3, some 4, some 5, some 6, some 7, some 5], rfl, by decide, ?_⟩ (fun i a => a ++ minL m (l.drop (i - 1)) = minL m l) rfl _ ?_ ?_
  · simp +contextual only [go_sem, ↓reduceIte, Nat.reduceEqDiff, Nat.reduceAdd, Nat.reduceLeDiff, Nat.reduceLT, reduceCtorEq, V.bk, V.bkC, V.bkA, bkL, List.getElem?_cons_zero, List.getElem?_cons_succ, List.length_nil, List.map_nil, holdsQ_idle, holdsQ_rcd]
  · rintro i a τ hi h1
    rw [minL_end m (by omega), List.append_nil] at h1
    refine ⟨.ready, none, by simp, rfl, ?_⟩
    have hF := isF_ints (minL m l)
    have hT : ((minL m l).map (Cod.enc : Int → V)).take (minL m l).length = (minL m l).map Cod.enc := List.take_of_length_le (by simp)
    simp +contextual only [go_sem, ↓reduceIte, Nat.reduceEqDiff, Nat.reduceAdd, Nat.reduceLeDiff, Nat.reduceLT, reduceCtorEq, h1]
    refine TopI.tri hg k15 ?_
    simp +contextual only [go_sem, ↓reduceIte, Nat.reduceEqDiff, Nat.reduceAdd, Nat.reduceLeDiff, Nat.reduceLT, reduceCtorEq, k15, hF, hT, Nat.zero_add, List.length_map, Nat.le_refl, true_and, and_true, decL_enc Cod.dec_enc]
    try trivial
  · rintro i a x y τ hx hy h1 hτ
    refine YieldT.round hg k15 B (hC.1.trans B.i0) (hC.2.1.trans B.w0) hC.2.2 rfl rfl fun C2 hlow2 => ?_
    have hd := minL_drop m hx hy
    obtain ⟨xt, x1, x2⟩ := rOk_at hv hx
    obtain ⟨yt, y1, y2⟩ := rOk_at hv hy
    have wl : IntKind.i64.wrap (y.time - x.time) = y.time - x.time := by rw [IntKind.wrap_i64]; omega
    have hlt := asc_at hv.asc hx hy
    have hlow28 : LowC C2 8 := hlow2 8 hτ hlow8
    have hlen : a.length + (y.time - x.time).toNat ≤ 20160 := by
      have h3 := congrArg List.length h1
      rw [show i + 1 - 1 = i from rfl, hd, List.length_append, List.length_append, mns_len] at h3
      omega
    have hb := bt_range x y (m := m) (by have := hv.m1; omega)
    have hm2 := hv.m2
    simp +contextual only [go_sem, ↓reduceIte, Nat.reduceEqDiff, Nat.reduceAdd, Nat.reduceLeDiff, Nat.reduceLT, reduceCtorEq, k15, h27, hv.m1, hv.m2, x1, x2, y1, y2, and_self, wl]
    change TriI _ _ _ _ ⟨_, _, _⟩ _
    rw [show (y.reg - x.reg) % m = bt m x y from rfl]
    generalize bt m x y = e at hd hb
    generalize hdd : y.time - x.time = d at hd hlen
    refine TriI.loopA hg k15 (fun k : Nat => ⟨slotsL [(8, .ref 3 0 0), (11, .sc (.int .i64 e)), (13, .sc (.int .i64 d)), (58, .sc (.int .i64 d)), (59, .sc (.int .i64 (k : Nat)))], objsL [.live 1 [.sc (.int .i64 m)] true, .live 1 [.sc (.slice none 0 0)] true, .live 1 [.sc (.int .i64 0)] true, .live 1 [.own 8 0 (a ++ mns e d k).length] true, .live 1 [Cod.enc l] true, .dead, Bk.idle, B.rcd .busy none, .live 1 ((a ++ mns e d k).map Cod.enc) true], 9⟩)
      (fun k => k ≤ d.toNat) (fun k => d.toNat - k) 0 (.renQ [some 0, some 1, some 2, some 3, some 4, some 5, some 6, some 7, some 8] rfl rfl 8 ?_) (Nat.zero_le _) ?_
    · simp +contextual only [go_sem, ↓reduceIte, Nat.reduceEqDiff, Nat.reduceAdd, Nat.reduceLeDiff, Nat.reduceLT, reduceCtorEq, V.bk, V.bkC, V.bkA, bkL, List.getElem?_cons_zero, List.getElem?_cons_succ, mns, List.range_zero, List.map_nil, List.append_nil, bkL_ints, holdsQ_idle, holdsQ_rcd]
      rfl
    · intro k hk
      have hal : (a ++ mns e d k).length = a.length + k := by rw [List.length_append, mns_len]
      by_cases hkd : k < d.toNat
      · have hdec : decide ((k : Int) < d) = true := by simp; omega
        have hw := wrap_nat hkd (by omega)
        obtain ⟨⟨p1, p2⟩, ⟨p3, p4⟩, ⟨p5, p6⟩, p7, p8⟩ := mn_bounds (n := d) (k := k) hb.1 (by omega) (by omega) (by omega) (by omega)
        have d0 : d ≠ 0 := by omega
        have d0' : ¬ d = 0 := d0
        have r0 : IntKind.i64.wrap ((k : Int) + 1) = (k : Int) + 1 := by rw [IntKind.wrap_i64]; omega
        have r1 : IntKind.i64.wrap (e * ((k : Int) + 1)) = e * ((k : Int) + 1) := by rw [IntKind.wrap_i64]; omega
        have r2 : IntKind.i64.wrap (e * (k : Int)) = e * (k : Int) := by rw [IntKind.wrap_i64]; omega
        have r3 : (e * ((k : Int) + 1)).tdiv d = e * ((k : Int) + 1) / d := Int.tdiv_eq_ediv_of_nonneg p1
        have r4 : (e * (k : Int)).tdiv d = e * (k : Int) / d := Int.tdiv_eq_ediv_of_nonneg p3
        have r5 : IntKind.i64.wrap (e * ((k : Int) + 1) / d) = e * ((k : Int) + 1) / d := by rw [IntKind.wrap_i64]; omega
        have r6 : IntKind.i64.wrap (e * (k : Int) / d) = e * (k : Int) / d := by rw [IntKind.wrap_i64]; omega
        have r7 : IntKind.i64.wrap (e * ((k : Int) + 1) / d - e * (k : Int) / d) = e * ((k : Int) + 1) / d - e * (k : Int) / d := by rw [IntKind.wrap_i64]; omega
        have b1 : ((a ++ mns e d k).length + 1) * 8 ≤ 68719476736 := by omega
        have b2 : (a ++ mns e d k).length + 1 ≤ 4294967296 := by omega
        simp +contextual only [go_sem, ↓reduceIte, Nat.reduceEqDiff, Nat.reduceAdd, Nat.reduceLeDiff, Nat.reduceLT, reduceCtorEq, k15, hdec, r0, r1, r2, r3, r4, r5, r6, r7, d0, d0', b1, b2, ne_eq, not_false_eq_true, List.length_map, Nat.zero_add, List.drop_zero, true_and, and_true, okE]
        have hmn : e * ((k : Int) + 1) / d - e * (k : Int) / d = mn e d k := rfl
        rw [hmn]
        refine ⟨rfl, k + 1, by dsimp only; omega, by dsimp only; omega, .renQ [some 0, some 1, some 2, some 3, some 4, some 5, some 6, some 7, some 23] rfl rfl 8 ?_⟩
        simp +contextual only [go_sem, ↓reduceIte, Nat.reduceEqDiff, Nat.reduceAdd, Nat.reduceLeDiff, Nat.reduceLT, reduceCtorEq, V.bk, V.bkC, V.bkA, bkL, List.getElem?_cons_zero, List.getElem?_cons_succ, mns_succ, ← List.append_assoc, List.map_append, List.map_cons, List.map_nil, List.length_append, List.length_cons, List.length_nil, Nat.zero_add, holdsQ_idle, holdsQ_rcd]
        have hcat : List.map Cod.enc a ++ List.map Cod.enc (mns e d k) ++ [V.sc (.int .i64 (mn e d k))] = (a ++ mns e d (k + 1)).map Cod.enc := by
          rw [mns_succ, List.map_append, List.map_append, List.append_assoc]; rfl
        refine ⟨by push_cast; rfl, ?_⟩
        rw [hcat, bkL_ints]
        rfl
      · have hdec : decide ((k : Int) < d) = false := by simp; omega
        simp +contextual only [go_sem, ↓reduceIte, Nat.reduceEqDiff, Nat.reduceAdd, Nat.reduceLeDiff, Nat.reduceLT, reduceCtorEq, k15, hdec]
        have ek : k = d.toNat := by omega
        subst ek
        refine .inl ⟨a ++ mns e d d.toNat, ?_, [some 0, some 1, some 2, some 3, some 4, some 5, some 6, some 7, some 8], rfl, by decide, ?_⟩
        · rw [← h1, show i + 2 - 1 = i + 1 from rfl, show i + 1 - 1 = i from rfl, hd, List.append_assoc]
        · simp +contextual only [go_sem, ↓reduceIte, Nat.reduceEqDiff, Nat.reduceAdd, Nat.reduceLeDiff, Nat.reduceLT, reduceCtorEq, V.bk, V.bkC, V.bkA, bkL, List.getElem?_cons_zero, List.getElem?_cons_succ, bkL_ints, holdsQ_idle, holdsQ_rcd]
end Go.Proofs.Ytdidgmhkgcblhaa
