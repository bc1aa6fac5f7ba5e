/- A directory's errors. -/
import Derived.Test.YtalhbhbkdfmhgaaDir45a
namespace Go.Proofs.Ytalhbhbkdfmhgaa
set_option linter.all false
open Go.Idl
set_option maxHeartbeats 4000000
set_option maxRecDepth 100000
attribute [local go_sem] agObj agDir agOK Try.underlying3 Try.underlying5 Try.underlying9
@[go_sem] theorem idxI_okey {α : Type} (m : List (OKeyD × α)) (n : Int) (x y : ByteArray) : idxI true [.i .i64, .s, .s] (.agg #[.int .i64 n, .string x, .string y]) (keysM m) = some (fidx m ⟨n, x, y⟩) := idxI_typed m ⟨n, x, y⟩
theorem low_boolsM {κ : Type} (n : Nat) (m : List (κ × Bool)) : (valsM m).all (V.low n) = true := by
  simp only [valsM, List.all_map, List.all_eq_true]
  intro x _
  rfl
def seenM (a : List ObjD) : List (OKeyD × Bool) := a.map fun o => (keyO o, true)
def consV : V → Option (List Value) → Option (List Value)
  | .sc v, some vs => some (v :: vs)
  | _, _ => none
@[go_sem ↓] theorem concL_nil' : concL [] = some [] := rfl
@[go_sem ↓] theorem concL_sc (v : Value) (cs : List V) : concL (.sc v :: cs) = consV (.sc v) (concL cs) := by
  cases h : concL cs <;> simp [concL, consV, V.conc1, h]
@[go_sem ↓] theorem consV_some (v : Value) (vs : List Value) : consV (.sc v) (some vs) = some (v :: vs) := rfl
def hasK (a : List ObjD) (o : ObjD) : Bool := a.any fun x => decide (keyO x = keyO o)
def badMk (m before next : Int) : Bool := decide (m < 1) || decide (m ≤ before) || decide (m ≥ next)
def vObs (next : Int) : List ObjD → Int → List (ObjD × Int) → Int
  | _, _, [] => 0
  | a, b, (o, m) :: l => bif !(chkO o == 0) then chkO o else bif hasK a o then 9 else bif badMk m b next then 1 else vObs next (a ++ [o]) m l
def validDir (d : DirD) : Int := bif !okName d.party then 4 else bif !decide (d.marks.length = d.objects.length) then 1 else bif decide (d.objects.length > 256) then 3 else
  bif !(vObs d.next [] 0 (d.objects.zip d.marks) == 0) then vObs d.next [] 0 (d.objects.zip d.marks) else bif decide (d.next < 1) || decide (d.next > 4611686018427387904) then 2 else 0
abbrev SVal : List V → Option V := FT fun (t : DirD × Unit) => if t.1.objects.length ≤ 1000000 ∧ t.1.marks.length ≤ 1000000 then some (validDir t.1) else none
theorem look_seen (a : List ObjD) (o : ObjD) : lookM (seenM a) (keyO o) = if hasK a o = true then some true else none := by
  induction a with
  | nil => rfl
  | cons x a ih =>
    simp only [seenM, List.map_cons, lookM, List.find?_cons]
    by_cases h : keyO o = keyO x
    · simp [h, hasK]
    · have h' : ¬ keyO x = keyO o := fun e => h e.symm
      simp only [h, decide_false]
      simp only [seenM, lookM] at ih
      rw [ih]
      simp [hasK, h']
theorem put_seen {a : List ObjD} {o : ObjD} (h : hasK a o = false) : putM (seenM a) (keyO o) true = seenM (a ++ [o]) := by
  unfold putM
  have : fidx (seenM a) (keyO o) = none := by
    cases hf : fidx (seenM a) (keyO o) with
    | none => rfl
    | some i =>
      obtain ⟨b, h1, h2⟩ := fidx_some hf
      rw [look_seen, h] at h2
      cases h2
  rw [this]
  simp [seenM]
theorem con32 {Φ : Specs} (hg : Idl.Good Try.prog Φ) (h12 : Φ 12 = some F12) (h51 : Φ 51 = some SChk) (h52 : Φ 52 = some SKeyO) : Contract Try.prog 32 SVal := by
  refine conT hg k32 ic32 (by decide) fun C t r h => ?_
  obtain ⟨d, u⟩ := t
  dsimp only at h
  split at h
  · rename_i hl
    obtain ⟨hl, hml⟩ := hl
    cases h
    simp +contextual only [go_sem, ↓reduceIte, Nat.reduceEqDiff, Nat.reduceAdd, Nat.reduceLeDiff, Nat.reduceLT, reduceCtorEq, c32, k32, h12, F12, List.length_map]
    refine ⟨fun h1 => by simp only [validDir, h1, cond_true], fun h1 => ⟨fun h2 => ?_, fun h2 => ⟨fun h3 => ?_, fun h3 => ?_⟩⟩⟩
    · have e2 : decide (d.marks.length = d.objects.length) = false := by simp at h2 ⊢; omega
      simp only [validDir, h1, e2, cond_true, cond_false, Bool.not_false]
    · have e2 : decide (d.marks.length = d.objects.length) = true := by simp at h2 ⊢; omega
      have e3 : decide (d.objects.length > 256) = true := by simp at h3 ⊢; omega
      simp only [validDir, h1, e2, e3, cond_true, cond_false, Bool.not_true]
    · have e2 : decide (d.marks.length = d.objects.length) = true := by simp at h2 ⊢; omega
      have hm : d.marks.length = d.objects.length := by simpa using e2
      have e3 : decide (d.objects.length > 256) = false := by simp at h3 ⊢; omega
      have hz : (d.objects.zip d.marks).length = d.objects.length := by rw [List.length_zip]; omega
      have hv : validDir d = bif !(vObs d.next [] 0 (d.objects.zip d.marks) == 0) then vObs d.next [] 0 (d.objects.zip d.marks) else bif decide (d.next < 1) || decide (d.next > 4611686018427387904) then 2 else 0 := by
        simp only [validDir, h1, e2, e3, cond_true, cond_false, Bool.not_true]
      refine TriI.loopL hg k32 (d.objects.zip d.marks) (fun i (a : List ObjD × Int) => ⟨slotsL [(1, .ref 0 0 0), (3, .mapr 1), (4, .sc (.int .i64 a.2)), (28, Cod.enc d.objects), (29, .sc (.int .i64 d.objects.length)), (30, .sc (.int .i64 i))], objsL [.live 4 [Cod.enc d] true, .ext (.map (keysM (seenM a.1)) (valsM (seenM a.1)))], 2⟩)
        (fun xs a => vObs d.next a.1 a.2 xs = vObs d.next [] 0 (d.objects.zip d.marks)) ([], 0) (.back rfl ?_) rfl ?_ ?_
      · simp +contextual only [go_sem, ↓reduceIte, Nat.reduceEqDiff, Nat.reduceAdd, Nat.reduceLeDiff, Nat.reduceLT, reduceCtorEq, List.length_map]
        exact ⟨rfl, rfl, rfl⟩
      · intro a hinv
        rw [hz]
        have h0 : vObs d.next [] 0 (d.objects.zip d.marks) = 0 := by rw [← hinv]; rfl
        rw [hv, h0]
        simp +contextual only [go_sem, ↓reduceIte, Nat.reduceEqDiff, Nat.reduceAdd, Nat.reduceLeDiff, Nat.reduceLT, reduceCtorEq, k32, Int.lt_irrefl, decide_false]
        (repeat' (first | apply And.intro | intro _)) <;> simp only [beq_self_eq_true, Bool.not_true, *, cond_true, cond_false]
      · intro i a x xs hd hlt hx hinv
        rw [hz] at hlt
        have hw := wrap_nat hlt (by omega)
        obtain ⟨hx1, hx2⟩ := List.getElem?_zip_eq_some.1 hx
        obtain ⟨o, m⟩ := x
        obtain ⟨a, b⟩ := a
        dsimp only at hx1 hx2 hinv ⊢
        rw [hv]
        have hlk := look_seen a o
        have hn : vObs d.next a b ((o, m) :: xs) = bif !(chkO o == 0) then chkO o else bif hasK a o then 9 else bif badMk m b d.next then 1 else vObs d.next (a ++ [o]) m xs := rfl
        rw [hn] at hinv
        cases hh : hasK a o with
        | true =>
          rw [hh, if_pos rfl] at hlk
          have hlk' : lookM (seenM a) ⟨(keyO o).kind, (keyO o).owner, (keyO o).id⟩ = some true := hlk
          simp +contextual only [go_sem, ↓reduceIte, Nat.reduceEqDiff, Nat.reduceAdd, Nat.reduceLeDiff, Nat.reduceLT, reduceCtorEq, k32, lt_dec hlt, hx1, hx2, hw, h51, h52, hlk', List.getElem?_map, Option.map_some, Int.natCast_nonneg, Int.toNat_natCast]
          rw [← hinv, hh]
          refine ⟨fun h => ?_, fun h => ?_⟩
          · have hb : (chkO o == 0) = false := by simpa using h
            simp only [hb, Bool.not_false, cond_true]
          · have hb : (chkO o == 0) = true := by simpa using h
            simp only [hb, Bool.not_true, cond_false, cond_true]
            rfl
        | false =>
          rw [hh, if_neg (by simp)] at hlk
          have hlk' : lookM (seenM a) ⟨(keyO o).kind, (keyO o).owner, (keyO o).id⟩ = none := hlk
          have hp : putF' 1 (.agg #[.int .i64 (keyO o).kind, .string (keyO o).owner, .string (keyO o).id]) (.sc (.bool true)) (keysM (seenM a)) (valsM (seenM a)) (some (fidx (seenM a) (keyO o))) = some (.any, [(1, .ext (.map (keysM (seenM (a ++ [o]))) (valsM (seenM (a ++ [o])))))]) := by
            rw [← put_seen hh]; exact putF_typed 1 _ _ _ _ true rfl rfl
          have hlm : i < d.marks.length := by omega
          simp +contextual only [go_sem, ↓reduceIte, Nat.reduceEqDiff, Nat.reduceAdd, Nat.reduceLeDiff, Nat.reduceLT, reduceCtorEq, k32, lt_dec hlt, hx1, hx2, hw, h51, h52, hlk', hp, List.getElem?_map, Option.map_some, Int.natCast_nonneg, Int.toNat_natCast]
          have fin : ∀ {z : Int}, (chkO o == 0) = true → badMk m b d.next = true → 1 = bif !(bif !(chkO o == 0) then chkO o else bif false then 9 else bif badMk m b d.next then 1 else z) == 0 then (bif !(chkO o == 0) then chkO o else bif false then 9 else bif badMk m b d.next then 1 else z) else bif decide (d.next < 1) || decide (d.next > 4611686018427387904) then 2 else 0 := by
            intro z g1 g2
            simp only [g1, g2, Bool.not_true, cond_false, cond_true]
            rfl
          rw [hh] at hinv
          have hne : (chkO o != 0) = false → (chkO o == 0) = true := fun h => by simpa using h
          refine ⟨fun h => ?_, fun h => ⟨fun h4 => ⟨fun h5 => ⟨rfl, fun h6 => ?_, fun h6 => ⟨(a ++ [o], m), ?_, .back rfl ?_⟩⟩, fun h5 => ⟨rfl, ?_⟩⟩, fun h4 => ⟨rfl, ?_⟩⟩⟩
          · have hb : (chkO o == 0) = false := by simpa using h
            rw [← hinv]
            simp only [hb, Bool.not_false, cond_true]
          · rw [← hinv]; exact fin (hne h) (by simp only [badMk, h6, Bool.or_true])
          · dsimp only
            rw [← hinv]
            simp only [hne h, badMk, h4, h5, h6, Bool.not_true, cond_false, Bool.or_self]
          · simp +contextual only [go_sem, ↓reduceIte, Nat.reduceEqDiff, Nat.reduceAdd, Nat.reduceLeDiff, Nat.reduceLT, reduceCtorEq, low_boolsM]
          · rw [← hinv]; exact fin (hne h) (by simp only [badMk, h5, Bool.or_true, Bool.true_or])
          · rw [← hinv]; exact fin (hne h) (by simp only [badMk, h4, Bool.or_true, Bool.true_or])
  · cases h
end Go.Proofs.Ytalhbhbkdfmhgaa
