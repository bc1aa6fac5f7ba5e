/- Readings: their errors, energies between them, equality. -/
import Derived.Test.YteocedfakgdckaaDoorCodes
namespace Go.Proofs.YteocedfakgdckaaDoor
set_option linter.all false
open Go.Idl
set_option maxHeartbeats 4000000
set_option maxRecDepth 100000
attribute [local go_sem] Tryd.underlying3 Tryd.underlying5 Tryd.underlying9 Tryd.underlying4
def rOk (m : Int) (r : Rdg) : Bool := decide (0 ≤ r.time) && decide (r.time ≤ 268435456) && decide (0 ≤ r.reg) && decide (r.reg < m)
def uNoMore (p : Option Rdg) (r : Rdg) : Bool := match p with
  | some q => decide (r.time ≤ q.time)
  | none => false
def vrL (m : Int) (p : Option Rdg) : List Rdg → Int
  | [] => 0
  | r :: l => bif !rOk m r then 2 else bif uNoMore p r then 1 else vrL m (some r) l
def valS (l : List Rdg) (m : Int) : Int := bif decide (m < 1000) || decide (m > 1099511627776) then 2 else bif decide (l.length = 0) then 1 else bif decide (l.length > 1024) then 3 else vrL m none l
abbrev SVal : List V → Option V := FT fun (t : List Rdg × Int × Unit) => some (valS t.1 t.2.1)
theorem u_drop {α : Type} {l a xs : List α} {x : α} {i : Nat} (hd : l.drop i = x :: xs) (h : l = a ++ (x :: xs)) : i = a.length := by
  have h1 := congrArg List.length hd
  have h2 := congrArg List.length h
  simp at h1 h2
  omega
theorem u_bad (m : Int) (r : Rdg) : (decide (r.time < 0) || decide (r.time > 268435456) || decide (r.reg < 0) || decide (r.reg ≥ m)) = !rOk m r := by
  rw [Bool.eq_iff_iff]; simp [rOk]
theorem vrL_app (m : Int) (a : List Rdg) (l : List Rdg) (x : Rdg) (xs : List Rdg) (h : vrL m a.getLast? (x :: xs) = vrL m none l) : (rOk m x = false → vrL m none l = 2) ∧ (rOk m x = true → uNoMore a.getLast? x = true → vrL m none l = 1) ∧ (rOk m x = true → uNoMore a.getLast? x = false → vrL m (a ++ [x]).getLast? xs = vrL m none l) := by
  rw [← h, vrL]
  refine ⟨fun h => by simp [h], fun h1 h2 => by simp [h1, h2], fun h1 h2 => by simp [h1, h2]⟩
theorem con41 {Φ : Specs} (hg : Idl.Good Tryd.prog Φ) : Contract Tryd.prog 41 SVal := by
  refine conT hg k41 ic41 (by decide) fun C t r h => ?_
  obtain ⟨l, m, u⟩ := t
  cases h
  simp +contextual only [go_sem, ↓reduceIte, Nat.reduceEqDiff, Nat.reduceAdd, Nat.reduceLeDiff, Nat.reduceLT, reduceCtorEq, c41, k41, List.length_map]
  refine ⟨fun h => ?_, fun h => ⟨fun h2 => ?_, fun h2 => ⟨fun h3 => ?_, fun h3 => ?_⟩⟩⟩
  · simp only [valS, h, cond_true]
  · have : decide (l.length = 0) = true := by simp at h2 ⊢; simp [h2]
    simp only [valS, h, this, cond_true, cond_false]
  · have e2 : decide (l.length = 0) = false := by simp at h2 ⊢; simp [h2]
    have e3 : decide (l.length > 1024) = true := by simp at h3 ⊢; omega
    simp only [valS, h, e2, e3, cond_true, cond_false]
  · have e2 : decide (l.length = 0) = false := by simp at h2 ⊢; simp [h2]
    have e3 : decide (l.length > 1024) = false := by simp at h3 ⊢; omega
    have hv : valS l m = vrL m none l := by simp only [valS, h, e2, e3, cond_true, cond_false]
    have hl : l.length ≤ 1024 := by simpa using e3
    rw [hv]
    refine TriI.loopL hg k41 l (fun i (_ : List Rdg) => ⟨slotsL [(0, Cod.enc l), (1, .sc (.int .i64 m)), (19, Cod.enc l), (20, .sc (.int .i64 l.length)), (21, .sc (.int .i64 i))], objsL [], 0⟩)
      (fun xs a => l = a ++ xs ∧ vrL m a.getLast? xs = vrL m none l) [] (.back rfl ?_) ⟨rfl, rfl⟩ ?_ ?_
    · simp +contextual only [go_sem, ↓reduceIte, Nat.reduceEqDiff, Nat.reduceAdd, Nat.reduceLeDiff, Nat.reduceLT, reduceCtorEq, List.length_map]
      rfl
    · intro a hinv
      simp +contextual only [go_sem, ↓reduceIte, Nat.reduceEqDiff, Nat.reduceAdd, Nat.reduceLeDiff, Nat.reduceLT, reduceCtorEq, k41, Int.lt_irrefl, decide_false, List.length_map]
      exact hinv.2
    · intro i a x xs hd hlt hx hinv
      have hw := wrap_nat hlt (by omega)
      have hi := u_drop hd hinv.1
      obtain ⟨r1, r2, r3⟩ := vrL_app m a l x xs hinv.2
      rcases List.eq_nil_or_concat a with rfl | ⟨a', y, rfl⟩
      · have i0 : i = 0 := by simpa using hi
        have hg0 : decide ((i : Int) > 0) = false := by simp [i0]
        simp +contextual only [go_sem, ↓reduceIte, Nat.reduceEqDiff, Nat.reduceAdd, Nat.reduceLeDiff, Nat.reduceLT, reduceCtorEq, k41, lt_dec hlt, hx, hg0, List.getElem?_map, Option.map_some, Int.natCast_nonneg, Int.toNat_natCast, u_bad]
        refine ⟨fun hb => ?_, fun hb => ⟨rfl, [x], ?_, .back rfl ?_⟩⟩
        · simp only [Bool.not_eq_true'] at hb
          exact (r1 hb).symm
        · simp only [Bool.not_eq_false'] at hb
          exact ⟨hinv.1, r3 hb rfl⟩
        · simp +contextual only [go_sem, ↓reduceIte, Nat.reduceEqDiff, Nat.reduceAdd, Nat.reduceLeDiff, Nat.reduceLT, reduceCtorEq, hw]
      · have hg1 : decide ((i : Int) > 0) = true := by simp at hi ⊢; omega
        have hw1 : IntKind.i64.wrap ((i : Int) - 1) = ((i - 1 : Nat) : Int) := by
          have : 0 < i := by simpa using hg1
          rw [IntKind.wrap_i64]; omega
        have hy : l[i - 1]? = some y := by
          rw [hinv.1, hi]; simp
        simp +contextual only [go_sem, ↓reduceIte, Nat.reduceEqDiff, Nat.reduceAdd, Nat.reduceLeDiff, Nat.reduceLT, reduceCtorEq, k41, lt_dec hlt, hx, hg1, hw1, hy, List.getElem?_map, Option.map_some, Int.natCast_nonneg, Int.toNat_natCast, u_bad]
        have hn : uNoMore (a'.concat y).getLast? x = decide (x.time ≤ y.time) := by simp [uNoMore]
        rw [hn] at r2 r3
        refine ⟨fun hb => ?_, fun hb => ⟨rfl, fun hc => ?_, fun hc => ⟨a'.concat y ++ [x], ?_, .back rfl ?_⟩⟩⟩
        · simp only [Bool.not_eq_true'] at hb
          exact (r1 hb).symm
        · simp only [Bool.not_eq_false'] at hb
          exact (r2 hb hc).symm
        · simp only [Bool.not_eq_false'] at hb
          exact ⟨by rw [hinv.1]; simp, r3 hb hc⟩
        · simp +contextual only [go_sem, ↓reduceIte, Nat.reduceEqDiff, Nat.reduceAdd, Nat.reduceLeDiff, Nat.reduceLT, reduceCtorEq, hw]
def bt (m : Int) (a b : Rdg) : Int := (b.reg - a.reg) % m
theorem bt_range {m : Int} (a b : Rdg) (h : 0 < m) : 0 ≤ bt m a b ∧ bt m a b < m := ⟨Int.emod_nonneg _ (by omega), Int.emod_lt_of_pos _ h⟩
theorem con43 {Φ : Specs} (hg : Idl.Good Tryd.prog Φ) : Contract Tryd.prog 43 (FT fun (t : Int × Int × Int × Unit) => if (1000 ≤ t.2.2.1 ∧ t.2.2.1 ≤ 1099511627776) ∧ (0 ≤ t.1 ∧ t.1 < t.2.2.1) ∧ 0 ≤ t.2.1 ∧ t.2.1 < t.2.2.1 then some ((t.2.1 - t.1) % t.2.2.1, (0 : Int)) else none) := by
  refine conT hg k43 ic43 (by decide) fun C t r h => ?_
  obtain ⟨a, b, m, u⟩ := t
  dsimp only at h
  split at h
  · rename_i hc
    cases h
    obtain ⟨⟨h1, h2⟩, ⟨h3, h4⟩, h5, h6⟩ := hc
    have e1 : (decide (m < 1000) || decide (m > 1099511627776)) = false := by simp; omega
    have e2 : (decide (a < 0) || decide (a ≥ m) || decide (b < 0) || decide (b ≥ m)) = false := by simp; omega
    have m0 : m ≠ 0 := by omega
    have m0' : ¬ m = 0 := m0
    have w1 : IntKind.i64.wrap (b - a) = b - a := by rw [IntKind.wrap_i64]; omega
    have w2 : IntKind.i64.wrap (b - a + m) = b - a + m := by rw [IntKind.wrap_i64]; omega
    have w3 : (b - a + m).tmod m = (b - a) % m := by rw [Int.tmod_eq_emod_of_nonneg (by omega), Int.add_emod_right]
    have w4 : IntKind.i64.wrap ((b - a) % m) = (b - a) % m := by
      have h7 := Int.emod_nonneg (b - a) m0
      have h8 := Int.emod_lt_of_pos (b - a) (show 0 < m by omega)
      rw [IntKind.wrap_i64]; omega
    simp +contextual only [go_sem, ↓reduceIte, Nat.reduceEqDiff, Nat.reduceAdd, Nat.reduceLeDiff, Nat.reduceLT, reduceCtorEq, c43, k43, e1, e2, w1, w2, w3, w4, m0, m0', ne_eq, not_false_eq_true]
  · cases h
theorem eqRdg : eqInfo Tryd.prog 24 = some [.i .i64, .i .i64] := by kernel_rfl
attribute [local go_sem] eqRdg
end Go.Proofs.YteocedfakgdckaaDoor
namespace Go.Proofs.YteocedfakgdckaaDoor
set_option linter.all false
open Go.Idl
set_option maxHeartbeats 4000000
set_option maxRecDepth 100000
attribute [local go_sem] Tryd.underlying3 Tryd.underlying5 Tryd.underlying9 Tryd.underlying4
theorem agBool : agOf Tryd.prog 4 = some none := by kernel_rfl
theorem agInt : agOf Tryd.prog 3 = some none := by kernel_rfl
theorem agErr : agOf Tryd.prog 30 = some none := by kernel_rfl
attribute [local go_sem] agBool agInt agErr
theorem low_upd {τ : Nat → V} {m d : Nat} {v : V} (hv : v.low m = true) (h : ∀ t, (τ t).low m = true) : ∀ t, (updT τ d v t).low m = true := fun t => by
  unfold updT
  split
  · exact hv
  · exact h t
theorem low_prune {τ : Nat → V} {m : Nat} {K : List Nat} (h : ∀ t, (τ t).low m = true) : ∀ t, (prune K τ t).low m = true := fun t => by
  unfold prune
  split
  · exact h t
  · rfl
theorem low_slots {m : Nat} : ∀ {L : List (Nat × V)}, (∀ p, p ∈ L → p.2.low m = true) → ∀ t, (slotsL L t).low m = true
  | [], _, _ => rfl
  | (k, v) :: L, h, t => by
    simp only [slotsL]
    split
    · exact h (k, v) (by simp)
    · exact low_slots (fun p hp => h p (List.mem_cons_of_mem _ hp)) t
theorem objsL_push : ∀ (O : List Idl.Obj) (x : Idl.Obj), updH (objsL O) O.length x = objsL (O ++ [x])
  | [], x => by funext i; cases i <;> rfl
  | a :: O, x => by
    have ih := objsL_push O x
    funext i
    cases i with
    | zero => simp [updH, objsL]
    | succ i =>
      have := congrFun ih i
      simpa [updH, objsL] using this
theorem objsL_psh {O : List Idl.Obj} {k : Nat} (h : k = O.length) (x : Idl.Obj) : updH (objsL O) k x = objsL (O ++ [x]) := by subst h; exact objsL_push O x
theorem each {Φ : Specs} (hg : Idl.Good Tryd.prog Φ) {C' : Ctx} {α : Type} (l : List Rdg) (hl : l.length ≤ 1000000000) (yl bid m : Nat) (O : α → List Idl.Obj) (hO : ∀ a, (O a).length = m) (hbox : ∀ a, objsL (O a) bid = .live 1 [Cod.enc l] true) (hlo : ∀ a, holdsO (objsL (O a)) m 0 (O a))
    (hb : bid < m) (hlow : LowC C' m) (a0 : α) (inv : Nat → α → Prop) (h0 : inv 1 a0) (K : V → SF → Prop)
    (done : ∀ i a τ, l.length ≤ i → inv i a → K (.tup []) ⟨τ, objsL (O a), m⟩)
    (round : ∀ i a x y τ, l[i]? = some x → l[i + 1]? = some y → inv (i + 1) a → (∀ t, (τ t).low m = true) → YieldT Tryd.prog C' yl [Cod.enc x, Cod.enc y] ⟨τ, objsL (O a), m + 10⟩
      fun v s' => (v = .sc (.bool true) ∧ ∃ a', inv (i + 2) a' ∧ holdsO s'.H m 0 (O a')) ∨ (v = .sc (.bool false) ∧ ∀ τ, K (.tup []) ⟨τ, s'.H, s'.n⟩)) :
    walkI Tryd.prog Φ C' 22 k67 c67 ⟨pars [.sc (.func (.yield yl) #[] #[]), .ref bid 0 0], objsL (O a0), m⟩ (contI Tryd.prog Φ C' 22 k67 (endsC Tryd.prog [] K) []) := by
  simp +contextual only [go_sem, ↓reduceIte, Nat.reduceEqDiff, Nat.reduceAdd, Nat.reduceLeDiff, Nat.reduceLT, reduceCtorEq, c67, k67]
  refine TriI.loopA hg k67 (fun p : Nat × α => ⟨slotsL [(0, .sc (.func (.yield yl) #[] #[])), (1, .ref bid 0 0), (3, .sc (.int .i64 (p.1 : Nat)))], objsL (O p.2), m⟩) (fun p => 1 ≤ p.1 ∧ p.1 ≤ l.length + 1 ∧ inv p.1 p.2) (fun p => l.length + 1 - p.1) (1, a0) (.back (hO _).symm ?_) ⟨Nat.le_refl _, by dsimp only; omega, h0⟩ ?_
  · simp +contextual only [go_sem, ↓reduceIte, Nat.reduceEqDiff, Nat.reduceAdd, Nat.reduceLeDiff, Nat.reduceLT, reduceCtorEq, hb, decide_true]
    exact ⟨by simp, hlo a0⟩
  · rintro ⟨i, a⟩ ⟨h1, h2, hinv⟩
    dsimp only at h1 h2 hinv ⊢
    by_cases hlt : i < l.length
    · have hw := wrap_nat hlt (by omega)
      obtain ⟨j, rfl⟩ : ∃ j, i = j + 1 := ⟨i - 1, by omega⟩
      have hw1 : IntKind.i64.wrap (((j + 1 : Nat) : Int) - 1) = (j : Int) := by rw [IntKind.wrap_i64]; omega
      have hx : l[j]? = some l[j] := by simp
      have hy : l[j + 1]? = some l[j + 1] := by simp
      simp +contextual only [go_sem, ↓reduceIte, Nat.reduceEqDiff, Nat.reduceAdd, Nat.reduceLeDiff, Nat.reduceLT, reduceCtorEq, k67, hbox, hlt, lt_dec hlt, hw1, hx, hy, List.length_map, List.getElem?_map, Option.map_some, Int.natCast_nonneg, Int.toNat_natCast]
      refine ⟨rfl, ?_, (round j a _ _ _ hx hy hinv ?_).mono ?_⟩
      · simp [apartI, apartAll, clash, List.range, List.range.loop]
      · repeat' (first | (refine low_upd ?_ ?_) | (refine low_prune ?_))
        all_goals first | rfl | (simp [V.low, V.lowC, V.lowA, hb]; done) | (intro t; rfl)
      · rintro v s' (⟨rfl, a', q1, q2⟩ | ⟨rfl, q⟩)
        · simp +contextual only [go_sem, ↓reduceIte, Nat.reduceEqDiff, Nat.reduceAdd, Nat.reduceLeDiff, Nat.reduceLT, reduceCtorEq, k67, hw]
          refine ⟨(j + 2, a'), by first | omega | (dsimp only; omega), ⟨Nat.le_add_left 1 (j + 1), by first | omega | (dsimp only; omega), q1⟩, .back (hO _).symm ?_⟩
          simp +contextual only [go_sem, ↓reduceIte, Nat.reduceEqDiff, Nat.reduceAdd, Nat.reduceLeDiff, Nat.reduceLT, reduceCtorEq, hb, decide_true]
          exact q2
        · simp +contextual only [go_sem, ↓reduceIte, Nat.reduceEqDiff, Nat.reduceAdd, Nat.reduceLeDiff, Nat.reduceLT, reduceCtorEq, k67]
          exact q _
    · have hd : decide ((i : Int) < (l.length : Int)) = false := by simp; omega
      simp +contextual only [go_sem, ↓reduceIte, Nat.reduceEqDiff, Nat.reduceAdd, Nat.reduceLeDiff, Nat.reduceLT, reduceCtorEq, k67, hbox, hd, List.length_map]
      exact done i a _ (by omega) hinv
def asc : List Rdg → Bool
  | x :: y :: l => decide (x.time < y.time) && asc (y :: l)
  | _ => true
abbrev SAsc : List V → Option V := FT fun (t : List Rdg × Unit) => if t.1.length ≤ 1000000000 then some (asc t.1) else none
theorem asc_drop : ∀ {l : List Rdg} {i : Nat} {x y : Rdg}, l[i]? = some x → l[i + 1]? = some y → asc (l.drop i) = (decide (x.time < y.time) && asc (l.drop (i + 1)))
  | [], i, x, y, h, _ => by simp at h
  | [a], 0, x, y, _, h => by simp at h
  | a :: b :: l, 0, x, y, h1, h2 => by simp at h1 h2; subst h1 h2; rfl
  | a :: l, i + 1, x, y, h1, h2 => by simpa using asc_drop (l := l) (by simpa using h1) (by simpa using h2)
theorem asc_end {l : List Rdg} {i : Nat} (h : l.length ≤ i + 1) : asc (l.drop i) = true := by
  have : (l.drop i).length ≤ 1 := by simp; omega
  match l.drop i, this with
  | [], _ => rfl
  | [a], _ => rfl
theorem con66 {Φ : Specs} (hg : Idl.Good Tryd.prog Φ) (h42 : Φ 42 = none) : Contract Tryd.prog 66 SAsc := by
  refine conM hg ic66 (by decide) fun C t r h => ?_
  obtain ⟨l, u⟩ := t
  dsimp only at h
  split at h
  · rename_i hle
    cases h
    refine TopI.seq (TopI.tri hg k66 ?_)
    simp +contextual only [go_sem, ↓reduceIte, Nat.reduceEqDiff, Nat.reduceAdd, Nat.reduceLeDiff, Nat.reduceLT, reduceCtorEq, k66]
    refine TopI.seq (TopI.seq (TopI.tri hg k66 ?_))
    simp +contextual only [go_sem, ↓reduceIte, Nat.reduceEqDiff, Nat.reduceAdd, Nat.reduceLeDiff, Nat.reduceLT, reduceCtorEq, k66, h42]
    refine CallT.of_walk hg k42 ic42 (by simp) fun C' hlow => ?_
    simp +contextual only [go_sem, ↓reduceIte, Nat.reduceEqDiff, Nat.reduceAdd, Nat.reduceLeDiff, Nat.reduceLT, reduceCtorEq, c42, k42]
    refine TopI.weaken (s' := ⟨slotsL [(0, Cod.enc l), (2, .ref 0 0 0), (6, .fn (.func 67) [] [.ref 1 0 0])], objsL [.live 1 [.sc (.bool false)] true, .live 1 [Cod.enc l] true], 2⟩) (.back rfl ?_) ?_
    · simp +contextual only [go_sem, ↓reduceIte, Nat.reduceEqDiff, Nat.reduceAdd, Nat.reduceLeDiff, Nat.reduceLT, reduceCtorEq]
    refine TopI.block (TopI.rfn (f := 67) (xs := []) (ys := [.ref 1 0 0]) rfl ⟨rfl, rfl⟩ fun B => ?_)
    refine CallT.of_walkK hg k67 ic67 (by simp) fun C' hC hlow => ?_
    have hlow4 : LowC C' 4 := hlow 4 (fun t => low_slots (fun p hp => by simp only [List.mem_cons, List.not_mem_nil, or_false] at hp; rcases hp with rfl | rfl | rfl <;> rfl) t) (B.low 4 (Nat.le_refl _) (fun t => low_slots (fun p hp => by simp only [List.mem_cons, List.not_mem_nil, or_false] at hp; rcases hp with rfl | rfl | rfl <;> rfl) t) (LowC.top _ _))
    have hH : updH (updH (objsL [.live 1 [.sc (.bool false)] true, .live 1 [Cod.enc l] true]) 2 Bk.idle) 3 (B.rcd .ready none) = objsL [.live 1 [.sc (.bool false)] true, .live 1 [Cod.enc l] true, Bk.idle, B.rcd .ready none] := by
      rw [objsL_psh (k := 2) (O := [_, _]) rfl, objsL_psh (k := 3) (O := [_, _] ++ [_]) rfl]; rfl
    change walkI _ _ _ _ _ _ ⟨pars [.sc (.func (.yield B.l) #[] #[]), .ref 1 0 0], updH (updH (objsL [.live 1 [.sc (.bool false)] true, .live 1 [Cod.enc l] true]) 2 Bk.idle) 3 (B.rcd .ready none), 4⟩ _
    rw [hH]
    refine each hg l hle B.l 1 4 (fun _ : Unit => [.live 1 [.sc (.bool false)] true, .live 1 [Cod.enc l] true, Bk.idle, B.rcd .ready none]) (fun _ => rfl) (fun _ => rfl) (fun _ => ⟨⟨rfl, rfl⟩, ⟨rfl, rfl⟩, ⟨rfl, rfl⟩, ⟨rfl, rfl⟩, trivial⟩) (by decide) hlow4 () (fun i _ => asc (l.drop (i - 1)) = asc l) rfl _ ?_ ?_
    · intro i _ τ hi hinv
      rw [asc_end (by omega)] at hinv
      refine ⟨.ready, none, by simp, rfl, ?_⟩
      simp +contextual only [go_sem, ↓reduceIte, Nat.reduceEqDiff, Nat.reduceAdd, Nat.reduceLeDiff, Nat.reduceLT, reduceCtorEq, ← hinv]
      refine TopI.tri hg k66 ?_
      simp +contextual only [go_sem, ↓reduceIte, Nat.reduceEqDiff, Nat.reduceAdd, Nat.reduceLeDiff, Nat.reduceLT, reduceCtorEq, k66]
    · intro i _ x y τ hx hy hinv hτ
      refine YieldT.round hg k66 B (hC.1.trans B.i0) (hC.2.1.trans B.w0) hC.2.2 rfl rfl fun C2 hlow2 => ?_
      have hd := asc_drop hx hy
      simp +contextual only [go_sem, ↓reduceIte, Nat.reduceEqDiff, Nat.reduceAdd, Nat.reduceLeDiff, Nat.reduceLT, reduceCtorEq, k66]
      refine ⟨fun hb => ?_, fun hb => ?_⟩
      · have hlt : decide (x.time < y.time) = false := by simp at hb ⊢; omega
        have hz : asc l = false := by rw [← hinv, show i + 1 - 1 = i from rfl, hd, hlt]; rfl
        refine .inr fun τ => ⟨.done, some .ret, by simp, rfl, ?_⟩
        simp +contextual only [go_sem, ↓reduceIte, Nat.reduceEqDiff, Nat.reduceAdd, Nat.reduceLeDiff, Nat.reduceLT, reduceCtorEq, hz]
      · have hlt : decide (x.time < y.time) = true := by simp at hb ⊢; omega
        refine .inl ⟨(), ?_, rfl, rfl⟩
        rw [← hinv, show i + 1 - 1 = i from rfl, hd, hlt]; rfl
  · cases h
end Go.Proofs.YteocedfakgdckaaDoor
namespace Go.Proofs.YteocedfakgdckaaDoor
set_option linter.all false
open Go.Idl
set_option maxHeartbeats 4000000
set_option maxRecDepth 100000
attribute [local go_sem] Tryd.underlying3 Tryd.underlying5 Tryd.underlying9 Tryd.underlying4 agBool agInt agErr
def totL (m : Int) : List Rdg → Int
  | x :: y :: l => bt m x y + totL m (y :: l)
  | _ => 0
theorem totL_drop (m : Int) : ∀ {l : List Rdg} {i : Nat} {x y : Rdg}, l[i]? = some x → l[i + 1]? = some y → totL m (l.drop i) = bt m x y + totL m (l.drop (i + 1))
  | [], i, x, y, h, _ => by simp at h
  | [a], 0, x, y, _, h => by simp at h
  | a :: b :: l, 0, x, y, h1, h2 => by simp at h1 h2; subst h1 h2; rfl
  | a :: l, i + 1, x, y, h1, h2 => by simpa using totL_drop m (l := l) (by simpa using h1) (by simpa using h2)
theorem totL_end (m : Int) {l : List Rdg} {i : Nat} (h : l.length ≤ i + 1) : totL m (l.drop i) = 0 := by
  have : (l.drop i).length ≤ 1 := by simp; omega
  match l.drop i, this with
  | [], _ => rfl
  | [a], _ => rfl
def totS (l : List Rdg) (m : Int) : Int × Int := bif valS l m != 0 then (0, valS l m) else (totL m l, 0)
abbrev STot : List V → Option V := FT fun (t : List Rdg × Int × Unit) => some (totS t.1 t.2.1)
theorem vrL_ok {m : Int} : ∀ {p : Option Rdg} {l : List Rdg}, vrL m p l = 0 → (∀ r, r ∈ l → rOk m r = true) ∧ asc (p.toList ++ l) = true
  | p, [], _ => ⟨by simp, by cases p <;> rfl⟩
  | p, r :: l, h => by
    simp only [vrL] at h
    cases h1 : rOk m r with
    | false => simp [h1] at h
    | true =>
      cases h2 : uNoMore p r with
      | true => simp [h1, h2] at h
      | false =>
        simp only [h1, h2, Bool.not_true, cond_false] at h
        obtain ⟨e1, e2⟩ := vrL_ok h
        refine ⟨fun q hq => ?_, ?_⟩
        · rcases List.mem_cons.1 hq with rfl | hq
          · exact h1
          · exact e1 q hq
        · cases p with
          | none => exact e2
          | some q =>
            have : decide (q.time < r.time) = true := by simp [uNoMore] at h2 ⊢; exact h2
            simp only [Option.toList, List.cons_append, List.nil_append, asc, this, Bool.true_and]
            exact e2
structure Vld (l : List Rdg) (m : Int) : Prop where
  m1 : 1000 ≤ m
  m2 : m ≤ 1099511627776
  ne : l ≠ []
  len : l.length ≤ 1024
  ok : ∀ r, r ∈ l → rOk m r = true
  asc : asc l = true
theorem valS_ok {l : List Rdg} {m : Int} (h : valS l m = 0) : Vld l m := by
  unfold valS at h
  cases h1 : (decide (m < 1000) || decide (m > 1099511627776)) with
  | true => simp only [h1, cond_true] at h; exact absurd h (by decide)
  | false =>
    cases h2 : decide (l.length = 0) with
    | true => simp only [h1, h2, cond_true, cond_false] at h; exact absurd h (by decide)
    | false =>
      cases h3 : decide (l.length > 1024) with
      | true => simp only [h1, h2, h3, cond_true, cond_false] at h; exact absurd h (by decide)
      | false =>
        simp only [h1, h2, h3, cond_false] at h
        obtain ⟨e1, e2⟩ := vrL_ok h
        simp at h1 h2 h3
        exact ⟨by omega, by omega, h2, h3, e1, e2⟩
theorem rOk_at {l : List Rdg} {m : Int} (h : Vld l m) {i : Nat} {x : Rdg} (hx : l[i]? = some x) : (0 ≤ x.time ∧ x.time ≤ 268435456) ∧ 0 ≤ x.reg ∧ x.reg < m := by
  have := h.ok x (List.mem_of_getElem? hx)
  simp only [rOk, Bool.and_eq_true, decide_eq_true_eq] at this
  omega
abbrev SDelta : List V → Option V := FT fun (t : Int × Int × Int × Unit) => if (1000 ≤ t.2.2.1 ∧ t.2.2.1 ≤ 1099511627776) ∧ (0 ≤ t.1 ∧ t.1 < t.2.2.1) ∧ 0 ≤ t.2.1 ∧ t.2.1 < t.2.2.1 then some ((t.2.1 - t.1) % t.2.2.1, (0 : Int)) else none
theorem con19 {Φ : Specs} (hg : Idl.Good Tryd.prog Φ) (h42 : Φ 42 = none) (h41 : Φ 41 = some SVal) (h43 : Φ 43 = some SDelta) : Contract Tryd.prog 19 STot := by
  refine conM hg ic19 (by decide) fun C t r h => ?_
  obtain ⟨l, m, u⟩ := t
  cases h
  refine TopI.seq (TopI.tri hg k19 ?_)
  simp +contextual only [go_sem, ↓reduceIte, Nat.reduceEqDiff, Nat.reduceAdd, Nat.reduceLeDiff, Nat.reduceLT, reduceCtorEq, k19]
  refine TopI.seq (TopI.tri hg k19 ?_)
  simp +contextual only [go_sem, ↓reduceIte, Nat.reduceEqDiff, Nat.reduceAdd, Nat.reduceLeDiff, Nat.reduceLT, reduceCtorEq, k19, h41]
  refine ⟨fun h => ?_, fun h => ?_⟩
  · simp only [totS, h, cond_true]
  have hz : valS l m = 0 := by simpa using h
  have hv := valS_ok hz
  have ht : totS l m = (totL m l, 0) := by simp only [totS, hz, bne_self_eq_false, cond_false]
  rw [ht]
  refine TopI.seq (TopI.tri hg k19 ?_)
  simp +contextual only [go_sem, ↓reduceIte, Nat.reduceEqDiff, Nat.reduceAdd, Nat.reduceLeDiff, Nat.reduceLT, reduceCtorEq, k19]
  refine TopI.seq (TopI.seq (TopI.tri hg k19 ?_))
  simp +contextual only [go_sem, ↓reduceIte, Nat.reduceEqDiff, Nat.reduceAdd, Nat.reduceLeDiff, Nat.reduceLT, reduceCtorEq, k19, h42]
  refine CallT.of_walk hg k42 ic42 (by simp) fun C' hlow => ?_
  simp +contextual only [go_sem, ↓reduceIte, Nat.reduceEqDiff, Nat.reduceAdd, Nat.reduceLeDiff, Nat.reduceLT, reduceCtorEq, c42, k42]
  refine TopI.weaken (s' := ⟨slotsL [(0, Cod.enc l), (3, .ref 0 0 0), (4, .ref 1 0 0), (5, .ref 2 0 0), (7, .ref 3 0 0), (19, .fn (.func 67) [] [.ref 4 0 0])], objsL [.live 1 [.sc (.int .i64 m)] true, .live 1 [.sc (.int .i64 0)] true, .live 1 [.sc (.int .i64 0)] true, .live 1 [.sc (.int .i64 0)] true, .live 1 [Cod.enc l] true], 5⟩) (.ren [some 0, some 1, some 2, some 3, some 5] rfl rfl 0 ?_) ?_
  · simp +contextual only [go_sem, ↓reduceIte, Nat.reduceEqDiff, Nat.reduceAdd, Nat.reduceLeDiff, Nat.reduceLT, reduceCtorEq]
  refine TopI.block (TopI.rfn (f := 67) (xs := []) (ys := [.ref 4 0 0]) rfl ⟨rfl, rfl⟩ fun B => ?_)
  refine CallT.of_walkK hg k67 ic67 (by simp) fun C' hC hlow => ?_
  have hsl : ∀ t, (slotsL [(0, Cod.enc l), (3, .ref 0 0 0), (4, .ref 1 0 0), (5, .ref 2 0 0), (7, .ref 3 0 0), (19, .fn (.func 67) [] [.ref 4 0 0])] t).low 7 = true := low_slots fun p hp => by
    simp only [List.mem_cons, List.not_mem_nil, or_false] at hp; rcases hp with rfl | rfl | rfl | rfl | rfl | rfl <;> rfl
  have hlow7 : LowC C' 7 := hlow 7 hsl (B.low 7 (Nat.le_refl _) hsl (LowC.top _ _))
  have hH : ∀ a b c d e : Idl.Obj, updH (updH (objsL [a, b, c, d, e]) 5 Bk.idle) 6 (B.rcd .ready none) = objsL [a, b, c, d, e, Bk.idle, B.rcd .ready none] := fun a b c d e => by
    rw [objsL_psh (k := 5) (O := [_, _, _, _, _]) rfl, objsL_psh (k := 6) (O := [_, _, _, _, _] ++ [_]) rfl]; rfl
  change walkI _ _ _ _ _ _ ⟨pars [.sc (.func (.yield B.l) #[] #[]), .ref 4 0 0], updH (updH (objsL [.live 1 [.sc (.int .i64 m)] true, .live 1 [.sc (.int .i64 0)] true, .live 1 [.sc (.int .i64 0)] true, .live 1 [.sc (.int .i64 0)] true, .live 1 [Cod.enc l] true]) 5 Bk.idle) 6 (B.rcd .ready none), 7⟩ _
  rw [hH]
  refine each hg l (by have := hv.len; omega) B.l 4 7 (fun a : Int => [.live 1 [.sc (.int .i64 m)] true, .live 1 [.sc (.int .i64 0)] true, .live 1 [.sc (.int .i64 0)] true, .live 1 [.sc (.int .i64 a)] true, .live 1 [Cod.enc l] true, Bk.idle, B.rcd .ready none]) (fun _ => rfl) (fun _ => rfl)
    (fun _ => ⟨⟨rfl, rfl⟩, ⟨rfl, rfl⟩, ⟨rfl, rfl⟩, ⟨rfl, rfl⟩, ⟨rfl, rfl⟩, ⟨rfl, rfl⟩, ⟨rfl, rfl⟩, trivial⟩) (by decide) hlow7 0 (fun i a => a + totL m (l.drop (i - 1)) = totL m l ∧ 0 ≤ a ∧ a ≤ (i : Int) * 1099511627776) ⟨by simp, by omega, by omega⟩ _ ?_ ?_
  · rintro i a τ hi ⟨h1, _, _⟩
    rw [totL_end m (by omega), Int.add_zero] at h1
    refine ⟨.ready, none, by simp, rfl, ?_⟩
    simp +contextual only [go_sem, ↓reduceIte, Nat.reduceEqDiff, Nat.reduceAdd, Nat.reduceLeDiff, Nat.reduceLT, reduceCtorEq, h1]
    refine TopI.tri hg k19 ?_
    simp +contextual only [go_sem, ↓reduceIte, Nat.reduceEqDiff, Nat.reduceAdd, Nat.reduceLeDiff, Nat.reduceLT, reduceCtorEq, k19]
  · rintro i a x y τ hx hy ⟨h1, h2, h3⟩ hτ
    refine YieldT.round hg k19 B (hC.1.trans B.i0) (hC.2.1.trans B.w0) hC.2.2 rfl rfl fun C2 hlow2 => ?_
    have hd := totL_drop m hx hy
    obtain ⟨_, x1, x2⟩ := rOk_at hv hx
    obtain ⟨_, y1, y2⟩ := rOk_at hv hy
    simp +contextual only [go_sem, ↓reduceIte, Nat.reduceEqDiff, Nat.reduceAdd, Nat.reduceLeDiff, Nat.reduceLT, reduceCtorEq, k19, h43, hv.m1, hv.m2, x1, x2, y1, y2, and_self]
    have hil : i + 1 < l.length := (List.getElem?_eq_some_iff.1 hy).1
    have hl := hv.len
    have hb := bt_range x y (m := m) (by have := hv.m1; omega)
    have hm2 := hv.m2
    have hw : IntKind.i64.wrap (a + (y.reg - x.reg) % m) = a + (y.reg - x.reg) % m := by
      unfold bt at hb
      rw [IntKind.wrap_i64]; omega
    refine .inl ⟨a + bt m x y, ⟨?_, by omega, by push_cast at h3 ⊢; omega⟩, by rw [hw]; rfl, rfl, rfl⟩
    rw [← h1, show i + 2 - 1 = i + 1 from rfl, show i + 1 - 1 = i from rfl, hd]
    omega
end Go.Proofs.YteocedfakgdckaaDoor
namespace Go.Proofs.YteocedfakgdckaaDoor
set_option linter.all false
open Go.Idl
set_option maxHeartbeats 4000000
set_option maxRecDepth 100000
attribute [local go_sem] Tryd.underlying3 Tryd.underlying5 Tryd.underlying9 Tryd.underlying4
def consM (x : Rdg) : Option (List Rdg) → Option (List Rdg)
  | some l => some (x :: l)
  | none => none
def mrgL : List Rdg → List Rdg → Option (List Rdg)
  | [], b => some b
  | x :: a, [] => some (x :: a)
  | x :: a, y :: b => bif decide (x.time < y.time) then consM x (mrgL a (y :: b)) else bif decide (x.time > y.time) then consM y (mrgL (x :: a) b) else bif !(x.reg == y.reg) then none else consM x (mrgL a b)
termination_by a b => a.length + b.length
def addM (p : List Rdg) : Option (List Rdg) → Option (List Rdg)
  | some l => some (p ++ l)
  | none => none
theorem addM_cons (p : List Rdg) (x : Rdg) (o : Option (List Rdg)) : addM p (consM x o) = addM (p ++ [x]) o := by cases o <;> simp [addM, consM]
theorem mrgL_nil (a : List Rdg) : mrgL a [] = some a := by cases a <;> simp [mrgL]
def mrgS (a b : List Rdg) : List Rdg × Int := bif !asc a || !asc b then ([], 1) else match mrgL a b with
  | none => ([], 23)
  | some l => bif decide (l.length > 1024) then ([], 3) else (l, 0)
abbrev SMrg : List V → Option V := FT fun (t : List Rdg × List Rdg × Unit) => if t.1.length ≤ 1000000 ∧ t.2.1.length ≤ 1000000 then some (mrgS t.1 t.2.1) else none
theorem low_rdgs (n : Nat) (l : List Rdg) : (l.map Cod.enc).all (V.low n) = true := by
  simp only [List.all_map, List.all_eq_true]
  intro x _
  rfl
theorem isF_rdgs (l : List Rdg) : (l.map Cod.enc).all V.isF = true := by
  simp only [List.all_map, List.all_eq_true]
  intro x _
  rfl
theorem okE_rdgs (l : List Rdg) : (l.map Cod.enc).all (okE 2) = true := by
  simp only [List.all_map, List.all_eq_true]
  intro x _
  rfl
theorem con40 {Φ : Specs} (hg : Idl.Good Tryd.prog Φ) (h66 : Φ 66 = some SAsc) : Contract Tryd.prog 40 SMrg := by
  refine conT hg k40 ic40 (by decide) fun C t r h => ?_
  obtain ⟨a, b, u⟩ := t
  dsimp only at h
  split at h
  · rename_i hl
    obtain ⟨hla, hlb⟩ := hl
    cases h
    have la : a.length ≤ 1000000000 := by omega
    have lb : b.length ≤ 1000000000 := by omega
    simp +contextual only [go_sem, ↓reduceIte, Nat.reduceEqDiff, Nat.reduceAdd, Nat.reduceLeDiff, Nat.reduceLT, reduceCtorEq, c40, k40, h66, la, lb]
    refine ⟨fun h => by simp only [mrgS, h, cond_true], fun h => ?_⟩
    refine TriI.loopA hg k40 (fun p : Nat × Nat × List Rdg => ⟨slotsL [(0, Cod.enc a), (1, Cod.enc b), (6, .own 0 0 p.2.2.length), (7, .sc (.int .i64 (p.1 : Nat))), (8, .sc (.int .i64 (p.2.1 : Nat)))], objsL [.live 2 (p.2.2.map Cod.enc) true], 1⟩)
      (fun p => p.1 ≤ a.length ∧ p.2.1 ≤ b.length ∧ p.2.2.length ≤ p.1 + p.2.1 ∧ addM p.2.2 (mrgL (a.drop p.1) (b.drop p.2.1)) = mrgL a b) (fun p => a.length + b.length - (p.1 + p.2.1)) (0, 0, []) (.ren [none] rfl rfl 0 ?_) ⟨Nat.zero_le _, Nat.zero_le _, Nat.zero_le _, ?_⟩ ?_
    · simp +contextual only [go_sem, ↓reduceIte, Nat.reduceEqDiff, Nat.reduceAdd, Nat.reduceLeDiff, Nat.reduceLT, reduceCtorEq, List.length_nil, List.map_nil]
      rfl
    · rw [List.drop_zero, List.drop_zero]
      cases mrgL a b <;> rfl
    · rintro ⟨i, j, p⟩ ⟨g1, g2, g3, g4⟩
      dsimp only at g1 g2 g3 g4 ⊢
      have b1 : (p.length + 1) * 16 ≤ 68719476736 := by omega
      have b2 : p.length + 1 ≤ 4294967296 := by omega
      by_cases hi : i < a.length
      · by_cases hj : j < b.length
        · have wi := wrap_nat hi (by omega)
          have wj := wrap_nat hj (by omega)
          have hx : a[i]? = some a[i] := by simp
          have hy : b[j]? = some b[j] := by simp
          have da : a.drop i = a[i] :: a.drop (i + 1) := by rw [List.drop_eq_getElem_cons hi]
          have db : b.drop j = b[j] :: b.drop (j + 1) := by rw [List.drop_eq_getElem_cons hj]
          simp +contextual only [go_sem, ↓reduceIte, Nat.reduceEqDiff, Nat.reduceAdd, Nat.reduceLeDiff, Nat.reduceLT, reduceCtorEq, k40, lt_dec hi, lt_dec hj, hx, hy, wi, wj, b1, b2, List.length_map, List.getElem?_map, Option.map_some, Int.natCast_nonneg, Int.toNat_natCast, Nat.zero_add, List.drop_zero, true_and, and_true, okE]
          have hm : mrgL (a.drop i) (b.drop j) = bif decide (a[i].time < b[j].time) then consM a[i] (mrgL (a.drop (i + 1)) (b.drop j)) else bif decide (a[i].time > b[j].time) then consM b[j] (mrgL (a.drop i) (b.drop (j + 1))) else bif !(a[i].reg == b[j].reg) then none else consM a[i] (mrgL (a.drop (i + 1)) (b.drop (j + 1))) := by
            rw [da, db, mrgL]
          refine ⟨rfl, fun h1 => ⟨(i + 1, j, p ++ [a[i]]), by dsimp only; omega, ⟨by dsimp only; omega, by dsimp only; omega, by simp; omega, ?_⟩, .ren [some 14] rfl rfl 0 ?_⟩, fun h1 => ⟨rfl, fun h2 => ⟨(i, j + 1, p ++ [b[j]]), by dsimp only; omega, ⟨by dsimp only; omega, by dsimp only; omega, by simp; omega, ?_⟩, .ren [some 26] rfl rfl 0 ?_⟩, fun h2 => ⟨rfl, fun h3 => ?_, fun h3 => ⟨(i + 1, j + 1, p ++ [a[i]]), by dsimp only; omega, ⟨by dsimp only; omega, by dsimp only; omega, by simp; omega, ?_⟩, .ren [some 38] rfl rfl 0 ?_⟩⟩⟩⟩
          · dsimp only; rw [← g4, hm, h1, cond_true, addM_cons]
          · simp +contextual only [go_sem, ↓reduceIte, Nat.reduceEqDiff, Nat.reduceAdd, Nat.reduceLeDiff, Nat.reduceLT, reduceCtorEq, List.map_append, List.map_cons, List.map_nil, List.length_append, List.length_cons, List.length_nil, List.all_append, low_rdgs, Nat.zero_add]
          · dsimp only; rw [← g4, hm, h1, h2, cond_false, cond_true, addM_cons]
          · simp +contextual only [go_sem, ↓reduceIte, Nat.reduceEqDiff, Nat.reduceAdd, Nat.reduceLeDiff, Nat.reduceLT, reduceCtorEq, List.map_append, List.map_cons, List.map_nil, List.length_append, List.length_cons, List.length_nil, List.all_append, low_rdgs, Nat.zero_add]
          · have h3' : (!(a[i].reg == b[j].reg)) = true := h3
            rw [hm, h1, h2, h3'] at g4
            simp only [mrgS, h, ← g4, addM, cond_true, cond_false]
          · have h3' : (!(a[i].reg == b[j].reg)) = false := h3
            dsimp only; rw [← g4, hm, h1, h2, h3', cond_false, cond_false, cond_false, addM_cons]
          · simp +contextual only [go_sem, ↓reduceIte, Nat.reduceEqDiff, Nat.reduceAdd, Nat.reduceLeDiff, Nat.reduceLT, reduceCtorEq, List.map_append, List.map_cons, List.map_nil, List.length_append, List.length_cons, List.length_nil, List.all_append, low_rdgs, Nat.zero_add]
        · have ej : j = b.length := by omega
          have hd : decide ((j : Int) < (b.length : Int)) = false := by simp; omega
          have hm : mrgL a b = some (p ++ a.drop i ++ b.drop j) := by
            rw [← g4, show b.drop j = [] by simp; omega, mrgL_nil]; simp [addM]
          have hb0 : b.drop j = [] := by simp; omega
          have a1 : (p.length + (a.drop i).length) * 16 ≤ 68719476736 := by simp; omega
          have a2 : p.length + (a.drop i).length ≤ 4294967296 := by simp; omega
          have ai : i ≤ a.length := by omega
          have bj : j ≤ b.length := by omega
          have hA : List.drop i (List.take a.length (a.map Cod.enc)) = (a.drop i).map Cod.enc := by rw [List.take_of_length_le (by simp), List.map_drop]
          have hB : List.drop j (List.take b.length (b.map Cod.enc)) = (b.drop j).map Cod.enc := by rw [List.take_of_length_le (by simp), List.map_drop]
          simp +contextual only [go_sem, ↓reduceIte, Nat.reduceEqDiff, Nat.reduceAdd, Nat.reduceLeDiff, Nat.reduceLT, reduceCtorEq, k40, lt_dec hi, hd, hb0, hA, hB, a1, a2, ai, bj, List.length_map, okE_rdgs, List.getElem?_map, Option.map_none, Option.map_some, Int.natCast_nonneg, Int.toNat_natCast, Nat.zero_add, Nat.add_zero, Nat.le_refl, List.drop_zero, List.length_nil, List.map_nil, List.append_nil, List.all_nil, List.length_append, true_and, and_true]
          have hF : (p.map Cod.enc ++ (a.drop i).map Cod.enc).all V.isF = true := by rw [← List.map_append]; exact isF_rdgs _
          have hT : (p.map Cod.enc ++ (a.drop i).map Cod.enc).take (p.length + (a.drop i).length) = (p ++ a.drop i).map Cod.enc := by rw [← List.map_append, List.take_of_length_le (by simp)]
          have hm' : mrgL a b = some (p ++ a.drop i) := by rw [hm, hb0, List.append_nil]
          refine ⟨fun h4 => ?_, fun h4 => ?_⟩
          · have h5 : decide ((p ++ a.drop i).length > 1024) = true := by simp at h4 ⊢; omega
            simp only [mrgS, h, hm', h5, cond_true, cond_false]
          · have h5 : decide ((p ++ a.drop i).length > 1024) = false := by simp at h4 ⊢; omega
            have hs : mrgS a b = (p ++ a.drop i, 0) := by simp only [mrgS, h, hm', h5, cond_false]
            rw [hs]
            simp +contextual only [go_sem, ↓reduceIte, Nat.reduceEqDiff, Nat.reduceAdd, Nat.reduceLeDiff, Nat.reduceLT, reduceCtorEq, hF, hT, decL_enc Cod.dec_enc]
      · have ei : i = a.length := by omega
        have hd : decide ((i : Int) < (a.length : Int)) = false := by simp; omega
        have ha0 : a.drop i = [] := by simp; omega
        have hm : mrgL a b = some (p ++ b.drop j) := by
          rw [← g4, ha0]; simp [addM, mrgL]
        have a1 : (p.length + (b.drop j).length) * 16 ≤ 68719476736 := by simp; omega
        have a2 : p.length + (b.drop j).length ≤ 4294967296 := by simp; omega
        have a3 : p.length * 16 ≤ 68719476736 := by omega
        have a4 : p.length ≤ 4294967296 := by omega
        have ai : i ≤ a.length := by omega
        have hA : List.drop i (List.take a.length (a.map Cod.enc)) = (a.drop i).map Cod.enc := by rw [List.take_of_length_le (by simp), List.map_drop]
        have hB : List.drop j (List.take b.length (b.map Cod.enc)) = (b.drop j).map Cod.enc := by rw [List.take_of_length_le (by simp), List.map_drop]
        have hF : (p.map Cod.enc ++ (b.drop j).map Cod.enc).all V.isF = true := by rw [← List.map_append]; exact isF_rdgs _
        have hT : (p.map Cod.enc ++ (b.drop j).map Cod.enc).take (p.length + (b.drop j).length) = (p ++ b.drop j).map Cod.enc := by rw [← List.map_append, List.take_of_length_le (by simp)]
        simp +contextual only [go_sem, ↓reduceIte, Nat.reduceEqDiff, Nat.reduceAdd, Nat.reduceLeDiff, Nat.reduceLT, reduceCtorEq, k40, hd, ha0, hA, hB, a1, a2, a3, a4, ai, g2, List.length_map, okE_rdgs, List.getElem?_map, Option.map_none, Option.map_some, Int.natCast_nonneg, Int.toNat_natCast, Nat.zero_add, Nat.add_zero, Nat.le_refl, List.drop_zero, List.length_nil, List.map_nil, List.append_nil, List.all_nil, List.length_append, true_and, and_true]
        refine ⟨fun h4 => ?_, fun h4 => ?_⟩
        · have h5 : decide ((p ++ b.drop j).length > 1024) = true := by simp at h4 ⊢; omega
          simp only [mrgS, h, hm, h5, cond_true, cond_false]
        · have h5 : decide ((p ++ b.drop j).length > 1024) = false := by simp at h4 ⊢; omega
          have hs : mrgS a b = (p ++ b.drop j, 0) := by simp only [mrgS, h, hm, h5, cond_false]
          rw [hs]
          simp +contextual only [go_sem, ↓reduceIte, Nat.reduceEqDiff, Nat.reduceAdd, Nat.reduceLeDiff, Nat.reduceLT, reduceCtorEq, hF, hT, decL_enc Cod.dec_enc]
  · cases h
end Go.Proofs.YteocedfakgdckaaDoor
