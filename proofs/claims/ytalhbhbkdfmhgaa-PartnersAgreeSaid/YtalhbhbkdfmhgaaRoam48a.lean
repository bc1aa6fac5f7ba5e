/- Parties: their errors. -/
import Derived.Test.YtalhbhbkdfmhgaaDispute
import Derived.Test.YtalhbhbkdfmhgaaDir45i
namespace Go.Proofs.Ytalhbhbkdfmhgaa
set_option linter.all false
open Go.Idl
set_option maxHeartbeats 4000000
set_option maxRecDepth 100000
theorem agPty : agOf Try.prog 30 = some (some 7) := by kernel_rfl
theorem agCdr : agOf Try.prog 39 = some (some 14) := by kernel_rfl
theorem agDis : agOf Try.prog 78 = some (some 6) := by kernel_rfl
theorem eqDis : eqInfo Try.prog 78 = some [.s, .s, .i .i64, .i .i64, .i .i64, .i .i64] := by kernel_rfl
attribute [local go_sem] agPty agCdr agDis eqDis agDir agObj Try.underlying3 Try.underlying5 Try.underlying9 Try.underlying4
theorem low_cdrs (n : Nat) (l : List CdrD) : (l.map Cod.enc).all (V.low n) = true := by
  simp only [List.all_map, List.all_eq_true]
  intro x _
  rfl
theorem isF_cdrs (l : List CdrD) : (l.map Cod.enc).all V.isF = true := by
  simp only [List.all_map, List.all_eq_true]
  intro x _
  rfl
theorem okE_cdrs (l : List CdrD) : (l.map Cod.enc).all (okE 14) = true := by
  simp only [List.all_map, List.all_eq_true]
  intro x _
  rfl
theorem low_diss (n : Nat) (l : List Disp) : (l.map Cod.enc).all (V.low n) = true := by
  simp only [List.all_map, List.all_eq_true]
  intro x _
  rfl
theorem isF_diss (l : List Disp) : (l.map Cod.enc).all V.isF = true := by
  simp only [List.all_map, List.all_eq_true]
  intro x _
  rfl
theorem okE_diss (l : List Disp) : (l.map Cod.enc).all (okE 6) = true := by
  simp only [List.all_map, List.all_eq_true]
  intro x _
  rfl
def idxI {α : Type} (f : α → ByteArray) : List α → ByteArray → Nat → Int
  | [], _, _ => -1
  | x :: xs, k, i => bif decide (f x = k) then (i : Int) else idxI f xs k (i + 1)
def hasI {α : Type} (f : α → ByteArray) (l : List α) (k : ByteArray) : Bool := l.any fun x => decide (f x = k)
def getI {α : Type} (f : α → ByteArray) (l : List α) (k : ByteArray) : Option α := l.find? fun x => decide (f x = k)
theorem idxI_get {α : Type} (f : α → ByteArray) (k : ByteArray) : ∀ (l : List α) (i : Nat), (idxI f l k i = -1 ∧ getI f l k = none) ∨ ∃ j : Nat, ∃ x, i ≤ j ∧ idxI f l k i = (j : Int) ∧ l[j - i]? = some x ∧ getI f l k = some x
  | [], i => .inl ⟨rfl, rfl⟩
  | x :: l, i => by
    by_cases h : f x = k
    · refine .inr ⟨i, x, Nat.le_refl _, by simp [idxI, h], by simp, by simp [getI, List.find?_cons, h]⟩
    · have hn : idxI f (x :: l) k i = idxI f l k (i + 1) := by simp [idxI, h]
      have hg : getI f (x :: l) k = getI f l k := by simp [getI, List.find?_cons, h]
      rw [hn, hg]
      rcases idxI_get f k l (i + 1) with h1 | ⟨j, y, h1, h2, h3, h4⟩
      · exact .inl h1
      · refine .inr ⟨j, y, by omega, h2, ?_, h4⟩
        rw [show j - i = (j - (i + 1)) + 1 by omega]
        simpa using h3
theorem hasI_get {α : Type} (f : α → ByteArray) : ∀ (l : List α) (k : ByteArray), hasI f l k = (getI f l k).isSome
  | [], _ => rfl
  | x :: l, k => by
    have ih := hasI_get f l k
    unfold hasI getI at ih ⊢
    rw [List.any_cons, List.find?_cons, ih]
    cases decide (f x = k) <;> rfl
theorem idxI_ge {α : Type} (f : α → ByteArray) (l : List α) (k : ByteArray) : decide (idxI f l k 0 ≥ 0) = hasI f l k := by
  rw [hasI_get]
  rcases idxI_get f k l 0 with ⟨h1, h2⟩ | ⟨j, x, _, h2, _, h4⟩
  · rw [h1, h2]; rfl
  · rw [h2, h4]; simp
def seenI {α : Type} (f : α → ByteArray) (a : List α) : List (ByteArray × Bool) := a.map fun t => (f t, true)
theorem look_seenI {α : Type} (f : α → ByteArray) (a : List α) (k : ByteArray) : lookM (seenI f a) k = if hasI f a k = true then some true else none := by
  induction a with
  | nil => rfl
  | cons x a ih =>
    simp only [seenI, List.map_cons, lookM, List.find?_cons]
    by_cases h : k = f x
    · subst h; simp [hasI]
    · have h' : ¬ f x = k := fun e => h e.symm
      have hh : hasI f (x :: a) k = hasI f a k := by simp [hasI, h']
      rw [hh]
      simp only [h, decide_false]
      exact ih
theorem put_seenI {α : Type} (f : α → ByteArray) {a : List α} {t : α} (h : hasI f a (f t) = false) : putM (seenI f a) (f t) true = seenI f (a ++ [t]) := by
  unfold putM
  have : fidx (seenI f a) (f t) = none := by rw [← lookM_none, look_seenI, h]; rfl
  rw [this]
  simp [seenI]
theorem low_seenI {α : Type} (n : Nat) (f : α → ByteArray) (a : List α) : (valsM (seenI f a)).all (V.low n) = true := by
  simp only [valsM, seenI, List.all_map, List.all_eq_true]
  intro x _
  rfl
def okCur (l : List CdrD) : Bool := l.all fun c => decide (c.currency.size ≤ 9223372036854775807)
def recV (name : ByteArray) : List CdrD → List CdrD → Int
  | _, [] => 0
  | a, c :: l => bif !(cdrS c == 0) then cdrS c else bif !decide (c.operator = name) && !decide (c.provider = name) then 1 else bif hasI CdrD.id a c.id then 9 else recV name (a ++ [c]) l
def disV (cs : List CdrD) : List Disp → List Disp → Int
  | _, [] => 0
  | a, d :: l => bif !(validD d == 0) then validD d else match getI CdrD.id cs d.cdr with
    | none => 8
    | some c => bif !decide (d.who = c.provider) then 1 else bif hasI Disp.cdr a d.cdr then 9 else disV cs (a ++ [d]) l
def recsV (p : PartyD) : Int := bif decide ((p.cdrs.length : Int) > 256) then 3 else recV p.name [] p.cdrs
def dissV (p : PartyD) : Int := bif decide ((p.disputes.length : Int) > 256) then 3 else disV p.cdrs [] p.disputes
def validP (p : PartyD) : Int := bif !okName p.name then 4 else bif !(validDir p.dir == 0) then validDir p.dir else bif !decide (p.dir.party = p.name) then 1 else
  bif !(recsV p == 0) then recsV p else dissV p
def lowP (p : PartyD) : Prop := p.cdrs.length ≤ 1000000 ∧ p.disputes.length ≤ 1000000 ∧ p.dir.objects.length ≤ 1000000 ∧ p.dir.marks.length ≤ 1000000
instance (p : PartyD) : Decidable (lowP p) := by unfold lowP; infer_instance
abbrev SRcd : List V → Option V := FT fun (t : PartyD × ByteArray × Unit) => if t.1.cdrs.length ≤ 1000000 then some (idxI CdrD.id t.1.cdrs t.2.1 0) else none
theorem con16 {Φ : Specs} (hg : Idl.Good Try.prog Φ) : Contract Try.prog 16 SRcd := by
  refine conT hg k16 ic16 (by decide) fun C t r h => ?_
  obtain ⟨p, k, u⟩ := t
  dsimp only at h
  split at h
  · rename_i hl
    cases h
    simp +contextual only [go_sem, ↓reduceIte, Nat.reduceEqDiff, Nat.reduceAdd, Nat.reduceLeDiff, Nat.reduceLT, reduceCtorEq, c16, k16, List.length_map]
    refine TriI.loopL hg k16 p.cdrs (fun i (_ : Unit) => ⟨slotsL [(1, .sc (.string k)), (2, .ref 0 0 0), (8, Cod.enc p.cdrs), (9, .sc (.int .i64 p.cdrs.length)), (10, .sc (.int .i64 i))], objsL [.live 7 [Cod.enc p] true], 1⟩) (fun xs _ => idxI CdrD.id xs k (p.cdrs.length - xs.length) = idxI CdrD.id p.cdrs k 0) () (.back rfl ?_) (by rw [Nat.sub_self]) ?_ ?_
    · simp +contextual only [go_sem, ↓reduceIte, Nat.reduceEqDiff, Nat.reduceAdd, Nat.reduceLeDiff, Nat.reduceLT, reduceCtorEq, List.length_map]
      rfl
    · intro _ hinv
      simp +contextual only [go_sem, ↓reduceIte, Nat.reduceEqDiff, Nat.reduceAdd, Nat.reduceLeDiff, Nat.reduceLT, reduceCtorEq, k16, Int.lt_irrefl, decide_false, List.length_map]
      rw [← hinv]; rfl
    · intro i _ x xs hdr hlt hx hinv
      have hw := wrap_nat hlt (by omega)
      have hln := congrArg List.length hdr
      rw [List.length_drop, List.length_cons] at hln
      have hi : p.cdrs.length - (x :: xs).length = i := by rw [List.length_cons]; omega
      rw [hi] at hinv
      simp +contextual only [go_sem, ↓reduceIte, Nat.reduceEqDiff, Nat.reduceAdd, Nat.reduceLeDiff, Nat.reduceLT, reduceCtorEq, k16, lt_dec hlt, hx, hw, List.length_map, List.getElem?_map, Option.map_some, Int.natCast_nonneg, Int.toNat_natCast]
      have hn : idxI CdrD.id (x :: xs) k i = bif decide (CdrD.id x = k) then (i : Int) else idxI CdrD.id xs k (i + 1) := rfl
      rw [hn] at hinv
      refine ⟨fun h => ?_, fun h => ⟨(), ?_, .back rfl ?_⟩⟩
      · have h' : decide (CdrD.id x = k) = true := h
        rw [h', cond_true] at hinv
        exact hinv
      · have h' : decide (CdrD.id x = k) = false := h
        rw [h', cond_false] at hinv
        show idxI CdrD.id xs k (p.cdrs.length - xs.length) = _
        rw [show p.cdrs.length - xs.length = i + 1 by omega, hinv]
      · simp +contextual only [go_sem, ↓reduceIte, Nat.reduceEqDiff, Nat.reduceAdd, Nat.reduceLeDiff, Nat.reduceLT, reduceCtorEq, low_cdrs, low_diss]
  · cases h
abbrev SAbt : List V → Option V := FT fun (t : PartyD × ByteArray × Unit) => if t.1.disputes.length ≤ 1000000 then some (idxI Disp.cdr t.1.disputes t.2.1 0) else none
theorem con46 {Φ : Specs} (hg : Idl.Good Try.prog Φ) : Contract Try.prog 46 SAbt := by
  refine conT hg k46 ic46 (by decide) fun C t r h => ?_
  obtain ⟨p, k, u⟩ := t
  dsimp only at h
  split at h
  · rename_i hl
    cases h
    simp +contextual only [go_sem, ↓reduceIte, Nat.reduceEqDiff, Nat.reduceAdd, Nat.reduceLeDiff, Nat.reduceLT, reduceCtorEq, c46, k46, List.length_map]
    refine TriI.loopL hg k46 p.disputes (fun i (_ : Unit) => ⟨slotsL [(1, .sc (.string k)), (2, .ref 0 0 0), (8, Cod.enc p.disputes), (9, .sc (.int .i64 p.disputes.length)), (10, .sc (.int .i64 i))], objsL [.live 7 [Cod.enc p] true], 1⟩) (fun xs _ => idxI Disp.cdr xs k (p.disputes.length - xs.length) = idxI Disp.cdr p.disputes k 0) () (.back rfl ?_) (by rw [Nat.sub_self]) ?_ ?_
    · simp +contextual only [go_sem, ↓reduceIte, Nat.reduceEqDiff, Nat.reduceAdd, Nat.reduceLeDiff, Nat.reduceLT, reduceCtorEq, List.length_map]
      rfl
    · intro _ hinv
      simp +contextual only [go_sem, ↓reduceIte, Nat.reduceEqDiff, Nat.reduceAdd, Nat.reduceLeDiff, Nat.reduceLT, reduceCtorEq, k46, Int.lt_irrefl, decide_false, List.length_map]
      rw [← hinv]; rfl
    · intro i _ x xs hdr hlt hx hinv
      have hw := wrap_nat hlt (by omega)
      have hln := congrArg List.length hdr
      rw [List.length_drop, List.length_cons] at hln
      have hi : p.disputes.length - (x :: xs).length = i := by rw [List.length_cons]; omega
      rw [hi] at hinv
      simp +contextual only [go_sem, ↓reduceIte, Nat.reduceEqDiff, Nat.reduceAdd, Nat.reduceLeDiff, Nat.reduceLT, reduceCtorEq, k46, lt_dec hlt, hx, hw, List.length_map, List.getElem?_map, Option.map_some, Int.natCast_nonneg, Int.toNat_natCast]
      have hn : idxI Disp.cdr (x :: xs) k i = bif decide (Disp.cdr x = k) then (i : Int) else idxI Disp.cdr xs k (i + 1) := rfl
      rw [hn] at hinv
      refine ⟨fun h => ?_, fun h => ⟨(), ?_, .back rfl ?_⟩⟩
      · have h' : decide (Disp.cdr x = k) = true := h
        rw [h', cond_true] at hinv
        exact hinv
      · have h' : decide (Disp.cdr x = k) = false := h
        rw [h', cond_false] at hinv
        show idxI Disp.cdr xs k (p.disputes.length - xs.length) = _
        rw [show p.disputes.length - xs.length = i + 1 by omega, hinv]
      · simp +contextual only [go_sem, ↓reduceIte, Nat.reduceEqDiff, Nat.reduceAdd, Nat.reduceLeDiff, Nat.reduceLT, reduceCtorEq, low_cdrs, low_diss]
  · cases h
abbrev SRcs : List V → Option V := FT fun (t : PartyD × Unit) => if t.1.cdrs.length ≤ 1000000 ∧ okCur t.1.cdrs = true then some (recsV t.1) else none
theorem con33 {Φ : Specs} (hg : Idl.Good Try.prog Φ) (h15 : Φ 15 = some SCdr) : Contract Try.prog 33 SRcs := by
  refine conT hg k33 ic33 (by decide) fun C t r h => ?_
  obtain ⟨p, u⟩ := t
  dsimp only at h
  split at h
  · rename_i hl
    obtain ⟨hl, ho⟩ := hl
    cases h
    unfold recsV
    cases e1 : decide ((p.cdrs.length : Int) > 256) with
    | true => simp +contextual only [go_sem, ↓reduceIte, Nat.reduceEqDiff, Nat.reduceAdd, Nat.reduceLeDiff, Nat.reduceLT, reduceCtorEq, c33, k33, List.length_map, e1, cond_true]
    | false =>
      simp +contextual only [go_sem, ↓reduceIte, Nat.reduceEqDiff, Nat.reduceAdd, Nat.reduceLeDiff, Nat.reduceLT, reduceCtorEq, c33, k33, List.length_map, e1, cond_false]
      refine TriI.loopL hg k33 p.cdrs (fun i (a : List CdrD) => ⟨slotsL [(1, .ref 0 0 0), (3, .mapr 1), (16, Cod.enc p.cdrs), (17, .sc (.int .i64 p.cdrs.length)), (18, .sc (.int .i64 i))], objsL [.live 7 [Cod.enc p] true, .ext (.map (keysM (seenI CdrD.id a)) (valsM (seenI CdrD.id a)))], 2⟩)
        (fun xs a => p.cdrs = a ++ xs ∧ recV p.name a xs = recV p.name [] p.cdrs) [] (.back rfl ?_) ⟨rfl, rfl⟩ ?_ ?_
      · simp +contextual only [go_sem, ↓reduceIte, Nat.reduceEqDiff, Nat.reduceAdd, Nat.reduceLeDiff, Nat.reduceLT, reduceCtorEq, List.length_map]
        exact ⟨rfl, rfl, rfl⟩
      · intro a hinv
        simp +contextual only [go_sem, ↓reduceIte, Nat.reduceEqDiff, Nat.reduceAdd, Nat.reduceLeDiff, Nat.reduceLT, reduceCtorEq, k33, Int.lt_irrefl, decide_false]
        rw [← hinv.2]; cases a <;> rfl
      · intro i a x xs hdr hlt hx hinv
        obtain ⟨g1, g2⟩ := hinv
        have hw := wrap_nat hlt (by omega)
        rw [recV] at g2
        have hlk := look_seenI CdrD.id a x.id
        cases h4 : cdrS x == 0 with
        | false =>
          have h4' : (cdrS x != 0) = true := by simpa using h4
          rw [h4, Bool.not_false, cond_true] at g2
          simp +contextual only [go_sem, ↓reduceIte, Nat.reduceEqDiff, Nat.reduceAdd, Nat.reduceLeDiff, Nat.reduceLT, reduceCtorEq, k33, lt_dec hlt, hx, hw, h15, h4', List.getElem?_map, Option.map_some, Int.natCast_nonneg, Int.toNat_natCast]
          exact g2
        | true =>
          have h4' : (cdrS x != 0) = false := by simpa using h4
          rw [h4, Bool.not_true, cond_false] at g2
          cases h5 : !decide (x.operator = p.name) && !decide (x.provider = p.name) with
          | true =>
            rw [h5, cond_true] at g2
            simp +contextual only [go_sem, ↓reduceIte, Nat.reduceEqDiff, Nat.reduceAdd, Nat.reduceLeDiff, Nat.reduceLT, reduceCtorEq, k33, lt_dec hlt, hx, hw, h15, h4', h5, List.getElem?_map, Option.map_some, Int.natCast_nonneg, Int.toNat_natCast]
            exact g2
          | false =>
            rw [h5, cond_false] at g2
            cases hh : hasI CdrD.id a x.id with
            | true =>
              rw [hh, if_pos rfl] at hlk
              rw [hh, cond_true] at g2
              simp +contextual only [go_sem, ↓reduceIte, Nat.reduceEqDiff, Nat.reduceAdd, Nat.reduceLeDiff, Nat.reduceLT, reduceCtorEq, k33, lt_dec hlt, hx, hw, h15, h4', h5, hlk, List.getElem?_map, Option.map_some, Int.natCast_nonneg, Int.toNat_natCast]
              exact g2
            | false =>
              rw [hh, if_neg (by decide)] at hlk
              rw [hh, cond_false] at g2
              have hpm := put_seenI CdrD.id hh
              simp +contextual only [go_sem, ↓reduceIte, Nat.reduceEqDiff, Nat.reduceAdd, Nat.reduceLeDiff, Nat.reduceLT, reduceCtorEq, k33, lt_dec hlt, hx, hw, h15, h4', h5, hlk, hpm, List.getElem?_map, Option.map_some, Int.natCast_nonneg, Int.toNat_natCast]
              refine ⟨a ++ [x], ⟨by rw [g1]; simp, g2⟩, .back rfl ?_⟩
              simp +contextual only [go_sem, ↓reduceIte, Nat.reduceEqDiff, Nat.reduceAdd, Nat.reduceLeDiff, Nat.reduceLT, reduceCtorEq, low_seenI, low_cdrs, low_diss]
  · cases h
end Go.Proofs.Ytalhbhbkdfmhgaa
