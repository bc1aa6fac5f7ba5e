/- A party's directory after calls. -/
import Derived.Test.YtaagkdmmdgajjaaDir45m
namespace Go.Proofs.Ytaagkdmmdgajjaa
set_option linter.all false
open Go.Idl
set_option maxHeartbeats 4000000
set_option maxRecDepth 100000
attribute [local go_sem] eqOK agObj agDir agOK agSh agMk agOp Try.underlying3 Try.underlying5 Try.underlying9 Try.underlying4

theorem low_ints (n : Nat) (l : List Int) : (l.map Cod.enc).all (V.low n) = true := by
  simp only [List.all_map, List.all_eq_true]
  intro x _
  rfl
/-- Valid, its party and bound known. -/
structure OkD (party : ByteArray) (b : Int) (d : DirD) : Prop where
  w : WF d
  p : d.party = party
  n : d.next ≤ b
theorem putS_cases (d : DirD) (o : ObjD) : (∃ e, putS d o = (d, e)) ∨ (putS d o = (storeD d o, 0) ∧ chkO o = 0 ∧ o.owner = d.party ∧ ((lookD d (keyO o)).isSome = true ∨ d.objects.length < 256)) := by
  unfold putS
  cases h1 : (chkO o == 0) with
  | false => exact .inl ⟨_, by rw [Bool.not_false, cond_true]⟩
  | true =>
    rw [Bool.not_true, cond_false]
    cases h2 : decide (o.owner = d.party) with
    | false => exact .inl ⟨_, by rw [Bool.not_false, cond_true]⟩
    | true =>
      rw [Bool.not_true, cond_false]
      have e1 : chkO o = 0 := by simpa using h1
      have e2 : o.owner = d.party := by simpa using h2
      cases h3 : lookD d (keyO o) with
      | some old =>
        dsimp only
        cases h4 : decide (o.version ≤ old.object.version) with
        | true => exact .inl ⟨_, by rw [cond_true]⟩
        | false => exact .inr ⟨by rw [cond_false], e1, e2, .inl rfl⟩
      | none =>
        dsimp only
        cases h4 : decide ((d.objects.length : Int) ≥ 256) with
        | true => exact .inl ⟨_, by rw [cond_true]⟩
        | false => exact .inr ⟨by rw [cond_false], e1, e2, .inr (by simp at h4; omega)⟩
theorem mgS_cases (c : DirD × Int) (o : ObjD) : mgS c o = c ∨ (mgS c o = (storeD c.1 o, c.2 + 1) ∧ chkO o = 0 ∧ o.owner ≠ c.1.party ∧ ((lookD c.1 (keyO o)).isSome = true ∨ c.1.objects.length < 256)) := by
  unfold mgS
  cases h1 : (chkO o == 0) with
  | false => exact .inl (by rw [Bool.not_false, cond_true])
  | true =>
    rw [Bool.not_true, cond_false]
    cases h2 : decide (o.owner = c.1.party) with
    | true => exact .inl (by rw [cond_true])
    | false =>
      rw [cond_false]
      have e1 : chkO o = 0 := by simpa using h1
      have e2 : o.owner ≠ c.1.party := by simpa using h2
      cases h3 : lookD c.1 (keyO o) with
      | some old =>
        dsimp only
        cases h4 : decide (old.object.version ≥ o.version) with
        | true => exact .inl (by rw [cond_true])
        | false => exact .inr ⟨by rw [cond_false], e1, e2, .inl rfl⟩
      | none =>
        dsimp only
        cases h4 : decide ((c.1.objects.length : Int) ≥ 256) with
        | true => exact .inl (by rw [cond_true])
        | false => exact .inr ⟨by rw [cond_false], e1, e2, .inr (by simp at h4; omega)⟩
theorem OkD.put {party : ByteArray} {b : Int} {d : DirD} (h : OkD party b d) (hb : b < 4611686018427387904) (o : ObjD) : OkD party (b + 1) (putS d o).1 := by
  have hn := h.n
  rcases putS_cases d o with ⟨e, h1⟩ | ⟨h1, h2, h3, h4⟩
  · rw [h1]; exact ⟨h.w, h.p, by dsimp only; omega⟩
  · rw [h1]
    exact ⟨store_wf h.w h2 h4 (by omega), h.p, by show d.next + 1 ≤ b + 1; omega⟩
theorem OkD.merge {party : ByteArray} : ∀ {l : List ObjD} {b : Int} {c : DirD × Int}, OkD party b c.1 → b + l.length ≤ 4611686018427387904 → OkD party (b + l.length) (l.foldl mgS c).1
  | [], b, c, h, hb => by
    have hn := h.n
    exact ⟨h.w, h.p, by simpa using hn⟩
  | o :: l, b, c, h, hb => by
    have hn := h.n
    rw [List.length_cons] at hb ⊢
    rw [List.foldl_cons]
    have h1 : OkD party (b + 1) (mgS c o).1 := by
      rcases mgS_cases c o with h1 | ⟨h1, h2, h3, h4⟩
      · rw [h1]; exact ⟨h.w, h.p, by omega⟩
      · rw [h1]
        exact ⟨store_wf h.w h2 h4 (by omega), h.p, by show c.1.next + 1 ≤ b + 1; omega⟩
    have := OkD.merge (l := l) h1 (by omega)
    rw [show b + ((l.length + 1 : Nat) : Int) = b + 1 + l.length by omega]
    exact this
theorem OkD.call {party : ByteArray} {b : Int} {d : DirD} (h : OkD party b d) {x : OpD} (hx : x.objects.length ≤ 300) (hb : b + 300 ≤ 4611686018427387904) : OkD party (b + 300) (callS d x).1 := by
  have hn := h.n
  have up : ∀ {b' : Int} {d' : DirD}, OkD party b' d' → b' ≤ b + 300 → OkD party (b + 300) d' := fun h' hb' => ⟨h'.w, h'.p, Int.le_trans h'.n hb'⟩
  unfold callS
  cases h1 : (x.kind == 1 && decide ((x.objects.length : Int) > 0)) with
  | true =>
    rw [cond_true]
    cases h2 : x.objects[0]? with
    | some o => exact up (h.put (by omega) o) (by omega)
    | none => exact up h (by omega)
  | false =>
    rw [cond_false]
    cases h2 : (x.kind == 2) with
    | true =>
      rw [cond_true]
      exact up (OkD.merge (c := (d, 0)) h (by omega)) (by omega)
    | false => rw [cond_false]; exact up h (by omega)
def newD (party : ByteArray) : DirD := ⟨party, [], [], 1⟩
theorem new_ok {party : ByteArray} (h : okName party = true) : OkD party 1 (newD party) :=
  ⟨⟨h, rfl, by simp [newD], by simp [newD], by simp [newD], by simp [newD], by simp [newD], by simp [newD], by simp [newD], by simp [newD]⟩, rfl, Int.le_refl _⟩
def runD (d : DirD) (l : List OpD) : DirD := l.foldl (fun d x => (callS d x).1) d
def playS (party : ByteArray) (l : List OpD) : DirD × Bool := bif okName party then (runD (newD party) l, true) else (⟨⟨#[]⟩, [], [], 0⟩, false)
def fewL (l : List OpD) : Bool := decide (l.length ≤ 100) && l.all fun x => decide (x.objects.length ≤ 300)
theorem run_ok {party : ByteArray} : ∀ {l : List OpD} {b : Int} {d : DirD}, OkD party b d → (∀ x, x ∈ l → x.objects.length ≤ 300) → b + 300 * l.length ≤ 4611686018427387904 → OkD party (b + 300 * l.length) (runD d l)
  | [], b, d, h, _, _ => ⟨h.w, h.p, by have := h.n; simp [runD]; omega⟩
  | x :: l, b, d, h, hx, hb => by
    rw [List.length_cons] at hb ⊢
    have := run_ok (l := l) (h.call (hx x (by simp)) (by omega)) (fun y hy => hx y (by simp [hy])) (by omega)
    rw [show b + 300 * ((l.length + 1 : Nat) : Int) = b + 300 + 300 * l.length by omega]
    exact this
abbrev SPlay : List V → Option V := FT fun (t : ByteArray × List OpD × Unit) => if fewL t.2.1 = true then some (playS t.1 t.2.1) else none
theorem con13 {Φ : Specs} (hg : Idl.Good Try.prog Φ) (h28 : Φ 28 = some SNewD) (h22 : Φ 22 = some SCall) : Contract Try.prog 13 SPlay := by
  refine conT hg k13 ic13 (by decide) fun C t r h => ?_
  obtain ⟨party, l, u⟩ := t
  dsimp only at h
  split at h
  · rename_i hl
    simp only [fewL, Bool.and_eq_true, decide_eq_true_eq, List.all_eq_true] at hl
    obtain ⟨hl, ho⟩ := hl
    cases h
    cases hN : okName party with
    | true =>
      have hp : playS party l = (runD (newD party) l, true) := by simp only [playS, hN, cond_true]
      rw [hp]
      simp +contextual only [go_sem, ↓reduceIte, Nat.reduceEqDiff, Nat.reduceAdd, Nat.reduceLeDiff, Nat.reduceLT, reduceCtorEq, c13, k13, h28, hN, cond_true, List.length_map, List.map_nil]
      refine TriI.loopL hg k13 l (fun i (d : DirD) => ⟨slotsL [(1, Cod.enc l), (4, .ref 0 0 0), (6, .ref 1 0 0), (7, .sc (.int .i64 0)), (15, .sc (.int .i64 l.length)), (16, .sc (.int .i64 i))], objsL [.live 4 [zeroDC] true, .live 4 [Cod.enc d] true], 2⟩)
        (fun xs d => runD d xs = runD (newD party) l ∧ OkD party (1 + 300 * ((l.length - xs.length : Nat) : Int)) d ∧ ∀ x, x ∈ xs → x.objects.length ≤ 300) (newD party) (.back rfl ?_) ⟨rfl, by rw [Nat.sub_self]; exact new_ok hN, ho⟩ ?_ ?_
      · simp +contextual only [go_sem, ↓reduceIte, Nat.reduceEqDiff, Nat.reduceAdd, Nat.reduceLeDiff, Nat.reduceLT, reduceCtorEq, List.length_map]
        exact ⟨rfl, rfl⟩
      · intro d hinv
        have hr : runD (newD party) l = d := hinv.1.symm
        rw [hr]
        simp +contextual only [go_sem, ↓reduceIte, Nat.reduceEqDiff, Nat.reduceAdd, Nat.reduceLeDiff, Nat.reduceLT, reduceCtorEq, k13, Int.lt_irrefl, decide_false, decL_enc Cod.dec_enc]
      · intro i d x xs hdr hlt hx hinv
        obtain ⟨g1, g2, g3⟩ := hinv
        have hw := wrap_nat hlt (by omega)
        have hln := congrArg List.length hdr
        rw [List.length_drop, List.length_cons] at hln
        have hxo := g3 x (by simp)
        have hv := (valid_iff d).2 g2.w
        have hn := g2.n
        have hlen : x.objects.length ≤ 100000 := by omega
        rw [List.length_cons] at hn g2
        have hnx : d.next + x.objects.length < 4611686018427387904 := by omega
        simp +contextual only [go_sem, ↓reduceIte, Nat.reduceEqDiff, Nat.reduceAdd, Nat.reduceLeDiff, Nat.reduceLT, reduceCtorEq, k13, lt_dec hlt, hx, hw, h22, hv, hlen, hnx, and_self, List.length_map, List.getElem?_map, Option.map_some, Int.natCast_nonneg, Int.toNat_natCast]
        refine ⟨rfl, (callS d x).1, ⟨g1, ?_, fun y hy => g3 y (by simp [hy])⟩, .back rfl ?_⟩
        · have h1 := g2.call hxo (by omega)
          exact ⟨h1.w, h1.p, Int.le_trans h1.n (by omega)⟩
        · simp +contextual only [go_sem, ↓reduceIte, Nat.reduceEqDiff, Nat.reduceAdd, Nat.reduceLeDiff, Nat.reduceLT, reduceCtorEq, low_obs, low_ints]
    | false =>
      have hp : playS party l = (⟨⟨#[]⟩, [], [], 0⟩, false) := by simp only [playS, hN, cond_false]
      rw [hp]
      simp +contextual only [go_sem, ↓reduceIte, Nat.reduceEqDiff, Nat.reduceAdd, Nat.reduceLeDiff, Nat.reduceLT, reduceCtorEq, c13, k13, h28, hN, cond_false, List.length_map, List.map_nil]
      refine TriI.loopL hg k13 l (fun i (_ : Unit) => ⟨slotsL [(1, Cod.enc l), (4, .ref 0 0 0), (6, .ref 1 0 0), (7, .sc (.int .i64 4)), (15, .sc (.int .i64 l.length)), (16, .sc (.int .i64 i))], objsL [.live 4 [zeroDC] true, .live 4 [Cod.enc (⟨⟨#[]⟩, [], [], 0⟩ : DirD)] true], 2⟩)
        (fun xs _ => True) () (.back rfl ?_) trivial ?_ ?_
      · simp +contextual only [go_sem, ↓reduceIte, Nat.reduceEqDiff, Nat.reduceAdd, Nat.reduceLeDiff, Nat.reduceLT, reduceCtorEq, List.length_map]
        rfl
      · intro _ _
        simp +contextual only [go_sem, ↓reduceIte, Nat.reduceEqDiff, Nat.reduceAdd, Nat.reduceLeDiff, Nat.reduceLT, reduceCtorEq, k13, Int.lt_irrefl, decide_false, List.map_nil]
        trivial
      · intro i _ x xs hdr hlt hx _
        have hw := wrap_nat hlt (by omega)
        have h4 : ((4 : Int) == 0) = false := rfl
        simp +contextual only [go_sem, ↓reduceIte, Nat.reduceEqDiff, Nat.reduceAdd, Nat.reduceLeDiff, Nat.reduceLT, reduceCtorEq, k13, lt_dec hlt, hx, hw, h4, List.map_nil]
        refine ⟨(), trivial, .back rfl ?_⟩
        simp +contextual only [go_sem, ↓reduceIte, Nat.reduceEqDiff, Nat.reduceAdd, Nat.reduceLeDiff, Nat.reduceLT, reduceCtorEq]
  · cases h
end Go.Proofs.Ytaagkdmmdgajjaa
