/- The energy between the first and the last reading. -/
import Derived.Test.YtoccifhckpjfaaaIter20
namespace Go.Proofs.Ytoccifhckpjfaaa
set_option linter.all false
open Go.Idl
set_option maxHeartbeats 4000000
set_option maxRecDepth 100000
attribute [local go_sem] Try.underlying3 Try.underlying5 Try.underlying9 Try.underlying4 agBool agInt agErr
def totL (m : Int) : List Rdg → Int
  | x :: y :: l => bt m x y + totL m (y :: l)
  | _ => 0
theorem totL_drop (m : Int) : ∀ {l : List Rdg} {i : Nat} {x y : Rdg}, l[i]? = some x → l[i + 1]? = some y → totL m (l.drop i) = bt m x y + totL m (l.drop (i + 1))
  | [], i, x, y, h, _ => by simp at h
  | [a], 0, x, y, _, h => by simp at h
  | a :: b :: l, 0, x, y, h1, h2 => by simp at h1 h2; subst h1 h2; rfl
  | a :: l, i + 1, x, y, h1, h2 => by simpa using totL_drop m (l := l) (by simpa using h1) (by simpa using h2)
theorem totL_end (m : Int) {l : List Rdg} {i : Nat} (h : l.length ≤ i + 1) : totL m (l.drop i) = 0 := by
  have : (l.drop i).length ≤ 1 := by simp; omega
  match l.drop i, this with
  | [], _ => rfl
  | [a], _ => rfl
def totS (l : List Rdg) (m : Int) : Int × Int := bif valS l m != 0 then (0, valS l m) else (totL m l, 0)
abbrev STot : List V → Option V := FT fun (t : List Rdg × Int × Unit) => some (totS t.1 t.2.1)
theorem vrL_ok {m : Int} : ∀ {p : Option Rdg} {l : List Rdg}, vrL m p l = 0 → (∀ r, r ∈ l → rOk m r = true) ∧ asc (p.toList ++ l) = true
  | p, [], _ => ⟨by simp, by cases p <;> rfl⟩
  | p, r :: l, h => by
    simp only [vrL] at h
    cases h1 : rOk m r with
    | false => simp [h1] at h
    | true =>
      cases h2 : uNoMore p r with
      | true => simp [h1, h2] at h
      | false =>
        simp only [h1, h2, Bool.not_true, cond_false] at h
        obtain ⟨e1, e2⟩ := vrL_ok h
        refine ⟨fun q hq => ?_, ?_⟩
        · rcases List.mem_cons.1 hq with rfl | hq
          · exact h1
          · exact e1 q hq
        · cases p with
          | none => exact e2
          | some q =>
            have : decide (q.time < r.time) = true := by simp [uNoMore] at h2 ⊢; exact h2
            simp only [Option.toList, List.cons_append, List.nil_append, asc, this, Bool.true_and]
            exact e2
structure Vld (l : List Rdg) (m : Int) : Prop where
  m1 : 1000 ≤ m
  m2 : m ≤ 1099511627776
  ne : l ≠ []
  len : l.length ≤ 1024
  ok : ∀ r, r ∈ l → rOk m r = true
  asc : asc l = true
theorem valS_ok {l : List Rdg} {m : Int} (h : valS l m = 0) : Vld l m := by
  unfold valS at h
  cases h1 : (decide (m < 1000) || decide (m > 1099511627776)) with
  | true => simp only [h1, cond_true] at h; exact absurd h (by decide)
  | false =>
    cases h2 : decide (l.length = 0) with
    | true => simp only [h1, h2, cond_true, cond_false] at h; exact absurd h (by decide)
    | false =>
      cases h3 : decide (l.length > 1024) with
      | true => simp only [h1, h2, h3, cond_true, cond_false] at h; exact absurd h (by decide)
      | false =>
        simp only [h1, h2, h3, cond_false] at h
        obtain ⟨e1, e2⟩ := vrL_ok h
        simp at h1 h2 h3
        exact ⟨by omega, by omega, h2, h3, e1, e2⟩
theorem rOk_at {l : List Rdg} {m : Int} (h : Vld l m) {i : Nat} {x : Rdg} (hx : l[i]? = some x) : (0 ≤ x.time ∧ x.time ≤ 268435456) ∧ 0 ≤ x.reg ∧ x.reg < m := by
  have := h.ok x (List.mem_of_getElem? hx)
  simp only [rOk, Bool.and_eq_true, decide_eq_true_eq] at this
  omega
abbrev SDelta : List V → Option V := FT fun (t : Int × Int × Int × Unit) => if (1000 ≤ t.2.2.1 ∧ t.2.2.1 ≤ 1099511627776) ∧ (0 ≤ t.1 ∧ t.1 < t.2.2.1) ∧ 0 ≤ t.2.1 ∧ t.2.1 < t.2.2.1 then some ((t.2.1 - t.1) % t.2.2.1, (0 : Int)) else none
theorem con19 {Φ : Specs} (hg : Idl.Good Try.prog Φ) (h40 : Φ 40 = none) (h39 : Φ 39 = some SVal) (h41 : Φ 41 = some SDelta) : Contract Try.prog 19 STot := by
  refine conM hg ic19 (by decide) fun C t r h => ?_
  obtain ⟨l, m, u⟩ := t
  cases h
  refine TopI.seq (TopI.tri hg k19 ?_)
  simp +contextual only [go_sem, ↓reduceIte, Nat.reduceEqDiff, Nat.reduceAdd, Nat.reduceLeDiff, Nat.reduceLT, reduceCtorEq, k19]
  refine TopI.seq (TopI.tri hg k19 ?_)
  simp +contextual only [go_sem, ↓reduceIte, Nat.reduceEqDiff, Nat.reduceAdd, Nat.reduceLeDiff, Nat.reduceLT, reduceCtorEq, k19, h39]
  refine ⟨fun h => ?_, fun h => ?_⟩
  · simp only [totS, h, cond_true]
  have hz : valS l m = 0 := by simpa using h
  have hv := valS_ok hz
  have ht : totS l m = (totL m l, 0) := by simp only [totS, hz, bne_self_eq_false, cond_false]
  rw [ht]
  refine TopI.seq (TopI.tri hg k19 ?_)
  simp +contextual only [go_sem, ↓reduceIte, Nat.reduceEqDiff, Nat.reduceAdd, Nat.reduceLeDiff, Nat.reduceLT, reduceCtorEq, k19]
  refine TopI.seq (TopI.seq (TopI.tri hg k19 ?_))
  simp +contextual only [go_sem, ↓reduceIte, Nat.reduceEqDiff, Nat.reduceAdd, Nat.reduceLeDiff, Nat.reduceLT, reduceCtorEq, k19, h40]
  refine CallT.of_walk hg k40 ic40 (by simp) fun C' hlow => ?_
  simp +contextual only [go_sem, ↓reduceIte, Nat.reduceEqDiff, Nat.reduceAdd, Nat.reduceLeDiff, Nat.reduceLT, reduceCtorEq, c40, k40]
  refine TopI.weaken (s' := ⟨slotsL [(0, Cod.enc l), (3, .ref 0 0 0), (4, .ref 1 0 0), (5, .ref 2 0 0), (7, .ref 3 0 0), (19, .fn (.func 54) [] [.ref 4 0 0])], objsL [.live 1 [.sc (.int .i64 m)] true, .live 1 [.sc (.int .i64 0)] true, .live 1 [.sc (.int .i64 0)] true, .live 1 [.sc (.int .i64 0)] true, .live 1 [Cod.enc l] true], 5⟩) (.ren [some 0, some 1, some 2, some 3, some 5] rfl rfl 0 ?_) ?_
  · simp +contextual only [go_sem, ↓reduceIte, Nat.reduceEqDiff, Nat.reduceAdd, Nat.reduceLeDiff, Nat.reduceLT, reduceCtorEq]
  refine TopI.block (TopI.rfn (f := 54) (xs := []) (ys := [.ref 4 0 0]) rfl ⟨rfl, rfl⟩ fun B => ?_)
  refine CallT.of_walkK hg k54 ic54 (by simp) fun C' hC hlow => ?_
  have hsl : ∀ t, (slotsL [(0, Cod.enc l), (3, .ref 0 0 0), (4, .ref 1 0 0), (5, .ref 2 0 0), (7, .ref 3 0 0), (19, .fn (.func 54) [] [.ref 4 0 0])] t).low 7 = true := low_slots fun p hp => by
    simp only [List.mem_cons, List.not_mem_nil, or_false] at hp; rcases hp with rfl | rfl | rfl | rfl | rfl | rfl <;> rfl
  have hlow7 : LowC C' 7 := hlow 7 hsl (B.low 7 (Nat.le_refl _) hsl (LowC.top _ _))
  have hH : ∀ a b c d e : Idl.Obj, updH (updH (objsL [a, b, c, d, e]) 5 Bk.idle) 6 (B.rcd .ready none) = objsL [a, b, c, d, e, Bk.idle, B.rcd .ready none] := fun a b c d e => by
    rw [objsL_psh (k := 5) (O := [_, _, _, _, _]) rfl, objsL_psh (k := 6) (O := [_, _, _, _, _] ++ [_]) rfl]; rfl
  change walkI _ _ _ _ _ _ ⟨pars [.sc (.func (.yield B.l) #[] #[]), .ref 4 0 0], updH (updH (objsL [.live 1 [.sc (.int .i64 m)] true, .live 1 [.sc (.int .i64 0)] true, .live 1 [.sc (.int .i64 0)] true, .live 1 [.sc (.int .i64 0)] true, .live 1 [Cod.enc l] true]) 5 Bk.idle) 6 (B.rcd .ready none), 7⟩ _
  rw [hH]
  refine each hg l (by have := hv.len; omega) B.l 4 7 (fun a : Int => [.live 1 [.sc (.int .i64 m)] true, .live 1 [.sc (.int .i64 0)] true, .live 1 [.sc (.int .i64 0)] true, .live 1 [.sc (.int .i64 a)] true, .live 1 [Cod.enc l] true, Bk.idle, B.rcd .ready none]) (fun _ => rfl) (fun _ => rfl)
    (fun _ => ⟨⟨rfl, rfl⟩, ⟨rfl, rfl⟩, ⟨rfl, rfl⟩, ⟨rfl, rfl⟩, ⟨rfl, rfl⟩, ⟨rfl, rfl⟩, ⟨rfl, rfl⟩, trivial⟩) (by decide) hlow7 0 (fun i a => a + totL m (l.drop (i - 1)) = totL m l ∧ 0 ≤ a ∧ a ≤ (i : Int) * 1099511627776) ⟨by simp, by omega, by omega⟩ _ ?_ ?_
  · rintro i a τ hi ⟨h1, _, _⟩
    rw [totL_end m (by omega), Int.add_zero] at h1
    refine ⟨.ready, none, by simp, rfl, ?_⟩
    simp +contextual only [go_sem, ↓reduceIte, Nat.reduceEqDiff, Nat.reduceAdd, Nat.reduceLeDiff, Nat.reduceLT, reduceCtorEq, h1]
    refine TopI.tri hg k19 ?_
    simp +contextual only [go_sem, ↓reduceIte, Nat.reduceEqDiff, Nat.reduceAdd, Nat.reduceLeDiff, Nat.reduceLT, reduceCtorEq, k19]
  · rintro i a x y τ hx hy ⟨h1, h2, h3⟩ hτ
    refine YieldT.round hg k19 B (hC.1.trans B.i0) (hC.2.1.trans B.w0) hC.2.2 rfl rfl fun C2 hlow2 => ?_
    have hd := totL_drop m hx hy
    obtain ⟨_, x1, x2⟩ := rOk_at hv hx
    obtain ⟨_, y1, y2⟩ := rOk_at hv hy
    simp +contextual only [go_sem, ↓reduceIte, Nat.reduceEqDiff, Nat.reduceAdd, Nat.reduceLeDiff, Nat.reduceLT, reduceCtorEq, k19, h41, hv.m1, hv.m2, x1, x2, y1, y2, and_self]
    have hil : i + 1 < l.length := (List.getElem?_eq_some_iff.1 hy).1
    have hl := hv.len
    have hb := bt_range x y (m := m) (by have := hv.m1; omega)
    have hm2 := hv.m2
    have hw : IntKind.i64.wrap (a + (y.reg - x.reg) % m) = a + (y.reg - x.reg) % m := by
      unfold bt at hb
      rw [IntKind.wrap_i64]; omega
    refine .inl ⟨a + bt m x y, ⟨?_, by omega, by push_cast at h3 ⊢; omega⟩, by rw [hw]; rfl, rfl, rfl⟩
    rw [← h1, show i + 2 - 1 = i + 1 from rfl, show i + 1 - 1 = i from rfl, hd]
    omega
end Go.Proofs.Ytoccifhckpjfaaa
