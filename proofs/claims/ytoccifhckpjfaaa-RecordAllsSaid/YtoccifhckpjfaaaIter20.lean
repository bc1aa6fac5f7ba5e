/- The readings that have a reading behind them. -/
import Derived.Test.YtoccifhckpjfaaaUse20
namespace Go.Proofs.Ytoccifhckpjfaaa
set_option linter.all false
open Go.Idl
set_option maxHeartbeats 4000000
set_option maxRecDepth 100000
attribute [local go_sem] Try.underlying3 Try.underlying5 Try.underlying9 Try.underlying4
theorem agBool : agOf Try.prog 4 = some none := by kernel_rfl
theorem agInt : agOf Try.prog 3 = some none := by kernel_rfl
theorem agErr : agOf Try.prog 30 = some none := by kernel_rfl
attribute [local go_sem] agBool agInt agErr
theorem low_upd {τ : Nat → V} {m d : Nat} {v : V} (hv : v.low m = true) (h : ∀ t, (τ t).low m = true) : ∀ t, (updT τ d v t).low m = true := fun t => by
  unfold updT
  split
  · exact hv
  · exact h t
theorem low_prune {τ : Nat → V} {m : Nat} {K : List Nat} (h : ∀ t, (τ t).low m = true) : ∀ t, (prune K τ t).low m = true := fun t => by
  unfold prune
  split
  · exact h t
  · rfl
theorem low_slots {m : Nat} : ∀ {L : List (Nat × V)}, (∀ p, p ∈ L → p.2.low m = true) → ∀ t, (slotsL L t).low m = true
  | [], _, _ => rfl
  | (k, v) :: L, h, t => by
    simp only [slotsL]
    split
    · exact h (k, v) (by simp)
    · exact low_slots (fun p hp => h p (List.mem_cons_of_mem _ hp)) t
theorem objsL_push : ∀ (O : List Idl.Obj) (x : Idl.Obj), updH (objsL O) O.length x = objsL (O ++ [x])
  | [], x => by funext i; cases i <;> rfl
  | a :: O, x => by
    have ih := objsL_push O x
    funext i
    cases i with
    | zero => simp [updH, objsL]
    | succ i =>
      have := congrFun ih i
      simpa [updH, objsL] using this
theorem objsL_psh {O : List Idl.Obj} {k : Nat} (h : k = O.length) (x : Idl.Obj) : updH (objsL O) k x = objsL (O ++ [x]) := by subst h; exact objsL_push O x
theorem each {Φ : Specs} (hg : Idl.Good Try.prog Φ) {C' : Ctx} {α : Type} (l : List Rdg) (hl : l.length ≤ 1000000000) (yl bid m : Nat) (O : α → List Idl.Obj) (hO : ∀ a, (O a).length = m) (hbox : ∀ a, objsL (O a) bid = .live 1 [Cod.enc l] true) (hlo : ∀ a, holdsO (objsL (O a)) m 0 (O a))
    (hb : bid < m) (hlow : LowC C' m) (a0 : α) (inv : Nat → α → Prop) (h0 : inv 1 a0) (K : V → SF → Prop)
    (done : ∀ i a τ, l.length ≤ i → inv i a → K (.tup []) ⟨τ, objsL (O a), m⟩)
    (round : ∀ i a x y τ, l[i]? = some x → l[i + 1]? = some y → inv (i + 1) a → (∀ t, (τ t).low m = true) → YieldT Try.prog C' yl [Cod.enc x, Cod.enc y] ⟨τ, objsL (O a), m + 10⟩
      fun v s' => (v = .sc (.bool true) ∧ ∃ a', inv (i + 2) a' ∧ holdsO s'.H m 0 (O a')) ∨ (v = .sc (.bool false) ∧ ∀ τ, K (.tup []) ⟨τ, s'.H, s'.n⟩)) :
    walkI Try.prog Φ C' 22 k54 c54 ⟨pars [.sc (.func (.yield yl) #[] #[]), .ref bid 0 0], objsL (O a0), m⟩ (contI Try.prog Φ C' 22 k54 (endsC Try.prog [] K) []) := by
  simp +contextual only [go_sem, ↓reduceIte, Nat.reduceEqDiff, Nat.reduceAdd, Nat.reduceLeDiff, Nat.reduceLT, reduceCtorEq, c54, k54]
  refine TriI.loopA hg k54 (fun p : Nat × α => ⟨slotsL [(0, .sc (.func (.yield yl) #[] #[])), (1, .ref bid 0 0), (3, .sc (.int .i64 (p.1 : Nat)))], objsL (O p.2), m⟩) (fun p => 1 ≤ p.1 ∧ p.1 ≤ l.length + 1 ∧ inv p.1 p.2) (fun p => l.length + 1 - p.1) (1, a0) (.back (hO _).symm ?_) ⟨Nat.le_refl _, by dsimp only; omega, h0⟩ ?_
  · simp +contextual only [go_sem, ↓reduceIte, Nat.reduceEqDiff, Nat.reduceAdd, Nat.reduceLeDiff, Nat.reduceLT, reduceCtorEq, hb, decide_true]
    exact ⟨by simp, hlo a0⟩
  · rintro ⟨i, a⟩ ⟨h1, h2, hinv⟩
    dsimp only at h1 h2 hinv ⊢
    by_cases hlt : i < l.length
    · have hw := wrap_nat hlt (by omega)
      obtain ⟨j, rfl⟩ : ∃ j, i = j + 1 := ⟨i - 1, by omega⟩
      have hw1 : IntKind.i64.wrap (((j + 1 : Nat) : Int) - 1) = (j : Int) := by rw [IntKind.wrap_i64]; omega
      have hx : l[j]? = some l[j] := by simp
      have hy : l[j + 1]? = some l[j + 1] := by simp
      simp +contextual only [go_sem, ↓reduceIte, Nat.reduceEqDiff, Nat.reduceAdd, Nat.reduceLeDiff, Nat.reduceLT, reduceCtorEq, k54, hbox, hlt, lt_dec hlt, hw1, hx, hy, List.length_map, List.getElem?_map, Option.map_some, Int.natCast_nonneg, Int.toNat_natCast]
      refine ⟨rfl, ?_, (round j a _ _ _ hx hy hinv ?_).mono ?_⟩
      · simp [apartI, apartAll, clash, List.range, List.range.loop]
      · repeat' (first | (refine low_upd ?_ ?_) | (refine low_prune ?_))
        all_goals first | rfl | (simp [V.low, V.lowC, V.lowA, hb]; done) | (intro t; rfl)
      · rintro v s' (⟨rfl, a', q1, q2⟩ | ⟨rfl, q⟩)
        · simp +contextual only [go_sem, ↓reduceIte, Nat.reduceEqDiff, Nat.reduceAdd, Nat.reduceLeDiff, Nat.reduceLT, reduceCtorEq, k54, hw]
          refine ⟨(j + 2, a'), by first | omega | (dsimp only; omega), ⟨Nat.le_add_left 1 (j + 1), by first | omega | (dsimp only; omega), q1⟩, .back (hO _).symm ?_⟩
          simp +contextual only [go_sem, ↓reduceIte, Nat.reduceEqDiff, Nat.reduceAdd, Nat.reduceLeDiff, Nat.reduceLT, reduceCtorEq, hb, decide_true]
          exact q2
        · simp +contextual only [go_sem, ↓reduceIte, Nat.reduceEqDiff, Nat.reduceAdd, Nat.reduceLeDiff, Nat.reduceLT, reduceCtorEq, k54]
          exact q _
    · have hd : decide ((i : Int) < (l.length : Int)) = false := by simp; omega
      simp +contextual only [go_sem, ↓reduceIte, Nat.reduceEqDiff, Nat.reduceAdd, Nat.reduceLeDiff, Nat.reduceLT, reduceCtorEq, k54, hbox, hd, List.length_map]
      exact done i a _ (by omega) hinv
def asc : List Rdg → Bool
  | x :: y :: l => decide (x.time < y.time) && asc (y :: l)
  | _ => true
abbrev SAsc : List V → Option V := FT fun (t : List Rdg × Unit) => if t.1.length ≤ 1000000000 then some (asc t.1) else none
theorem asc_drop : ∀ {l : List Rdg} {i : Nat} {x y : Rdg}, l[i]? = some x → l[i + 1]? = some y → asc (l.drop i) = (decide (x.time < y.time) && asc (l.drop (i + 1)))
  | [], i, x, y, h, _ => by simp at h
  | [a], 0, x, y, _, h => by simp at h
  | a :: b :: l, 0, x, y, h1, h2 => by simp at h1 h2; subst h1 h2; rfl
  | a :: l, i + 1, x, y, h1, h2 => by simpa using asc_drop (l := l) (by simpa using h1) (by simpa using h2)
theorem asc_end {l : List Rdg} {i : Nat} (h : l.length ≤ i + 1) : asc (l.drop i) = true := by
  have : (l.drop i).length ≤ 1 := by simp; omega
  match l.drop i, this with
  | [], _ => rfl
  | [a], _ => rfl
theorem con53 {Φ : Specs} (hg : Idl.Good Try.prog Φ) (h40 : Φ 40 = none) : Contract Try.prog 53 SAsc := by
  refine conM hg ic53 (by decide) fun C t r h => ?_
  obtain ⟨l, u⟩ := t
  dsimp only at h
  split at h
  · rename_i hle
    cases h
    refine TopI.seq (TopI.tri hg k53 ?_)
    simp +contextual only [go_sem, ↓reduceIte, Nat.reduceEqDiff, Nat.reduceAdd, Nat.reduceLeDiff, Nat.reduceLT, reduceCtorEq, k53]
    refine TopI.seq (TopI.seq (TopI.tri hg k53 ?_))
    simp +contextual only [go_sem, ↓reduceIte, Nat.reduceEqDiff, Nat.reduceAdd, Nat.reduceLeDiff, Nat.reduceLT, reduceCtorEq, k53, h40]
    refine CallT.of_walk hg k40 ic40 (by simp) fun C' hlow => ?_
    simp +contextual only [go_sem, ↓reduceIte, Nat.reduceEqDiff, Nat.reduceAdd, Nat.reduceLeDiff, Nat.reduceLT, reduceCtorEq, c40, k40]
    refine TopI.weaken (s' := ⟨slotsL [(0, Cod.enc l), (2, .ref 0 0 0), (6, .fn (.func 54) [] [.ref 1 0 0])], objsL [.live 1 [.sc (.bool false)] true, .live 1 [Cod.enc l] true], 2⟩) (.back rfl ?_) ?_
    · simp +contextual only [go_sem, ↓reduceIte, Nat.reduceEqDiff, Nat.reduceAdd, Nat.reduceLeDiff, Nat.reduceLT, reduceCtorEq]
    refine TopI.block (TopI.rfn (f := 54) (xs := []) (ys := [.ref 1 0 0]) rfl ⟨rfl, rfl⟩ fun B => ?_)
    refine CallT.of_walkK hg k54 ic54 (by simp) fun C' hC hlow => ?_
    have hlow4 : LowC C' 4 := hlow 4 (fun t => low_slots (fun p hp => by simp only [List.mem_cons, List.not_mem_nil, or_false] at hp; rcases hp with rfl | rfl | rfl <;> rfl) t) (B.low 4 (Nat.le_refl _) (fun t => low_slots (fun p hp => by simp only [List.mem_cons, List.not_mem_nil, or_false] at hp; rcases hp with rfl | rfl | rfl <;> rfl) t) (LowC.top _ _))
    have hH : updH (updH (objsL [.live 1 [.sc (.bool false)] true, .live 1 [Cod.enc l] true]) 2 Bk.idle) 3 (B.rcd .ready none) = objsL [.live 1 [.sc (.bool false)] true, .live 1 [Cod.enc l] true, Bk.idle, B.rcd .ready none] := by
      rw [objsL_psh (k := 2) (O := [_, _]) rfl, objsL_psh (k := 3) (O := [_, _] ++ [_]) rfl]; rfl
    change walkI _ _ _ _ _ _ ⟨pars [.sc (.func (.yield B.l) #[] #[]), .ref 1 0 0], updH (updH (objsL [.live 1 [.sc (.bool false)] true, .live 1 [Cod.enc l] true]) 2 Bk.idle) 3 (B.rcd .ready none), 4⟩ _
    rw [hH]
    refine each hg l hle B.l 1 4 (fun _ : Unit => [.live 1 [.sc (.bool false)] true, .live 1 [Cod.enc l] true, Bk.idle, B.rcd .ready none]) (fun _ => rfl) (fun _ => rfl) (fun _ => ⟨⟨rfl, rfl⟩, ⟨rfl, rfl⟩, ⟨rfl, rfl⟩, ⟨rfl, rfl⟩, trivial⟩) (by decide) hlow4 () (fun i _ => asc (l.drop (i - 1)) = asc l) rfl _ ?_ ?_
    · intro i _ τ hi hinv
      rw [asc_end (by omega)] at hinv
      refine ⟨.ready, none, by simp, rfl, ?_⟩
      simp +contextual only [go_sem, ↓reduceIte, Nat.reduceEqDiff, Nat.reduceAdd, Nat.reduceLeDiff, Nat.reduceLT, reduceCtorEq, ← hinv]
      refine TopI.tri hg k53 ?_
      simp +contextual only [go_sem, ↓reduceIte, Nat.reduceEqDiff, Nat.reduceAdd, Nat.reduceLeDiff, Nat.reduceLT, reduceCtorEq, k53]
    · intro i _ x y τ hx hy hinv hτ
      refine YieldT.round hg k53 B (hC.1.trans B.i0) (hC.2.1.trans B.w0) hC.2.2 rfl rfl fun C2 hlow2 => ?_
      have hd := asc_drop hx hy
      simp +contextual only [go_sem, ↓reduceIte, Nat.reduceEqDiff, Nat.reduceAdd, Nat.reduceLeDiff, Nat.reduceLT, reduceCtorEq, k53]
      refine ⟨fun hb => ?_, fun hb => ?_⟩
      · have hlt : decide (x.time < y.time) = false := by simp at hb ⊢; omega
        have hz : asc l = false := by rw [← hinv, show i + 1 - 1 = i from rfl, hd, hlt]; rfl
        refine .inr fun τ => ⟨.done, some .ret, by simp, rfl, ?_⟩
        simp +contextual only [go_sem, ↓reduceIte, Nat.reduceEqDiff, Nat.reduceAdd, Nat.reduceLeDiff, Nat.reduceLT, reduceCtorEq, hz]
      · have hlt : decide (x.time < y.time) = true := by simp at hb ⊢; omega
        refine .inl ⟨(), ?_, rfl, rfl⟩
        rw [← hinv, show i + 1 - 1 = i from rfl, hd, hlt]; rfl
  · cases h
end Go.Proofs.Ytoccifhckpjfaaa
