/- Putting an object into a directory. -/
import Derived.Test.YtaagkdmmdgajjaaDir45g
namespace Go.Proofs.Ytaagkdmmdgajjaa
set_option linter.all false
open Go.Idl
set_option maxHeartbeats 4000000
set_option maxRecDepth 100000
attribute [local go_sem] eqOK agObj agDir agOK agSh agMk Try.underlying3 Try.underlying5 Try.underlying9

theorem isF_ints (l : List Int) : (l.map Cod.enc).all V.isF = true := by
  simp only [List.all_map, List.all_eq_true]
  intro x _
  rfl
theorem ext_objs3 {a b c : Idl.Obj} {O : List Idl.Obj} : extH (updH (updH (updH (fun _ => .unborn) 0 a) 1 b) 2 c) 3 O = objsL (a :: b :: c :: O) := by
  funext id
  match id with
  | 0 => rfl
  | 1 => rfl
  | 2 => rfl
  | id + 3 =>
    show (if id + 3 < 3 then _ else objsL O (id + 3 - 3)) = objsL O id
    rw [if_neg (by omega), Nat.add_sub_cancel]
def putS (d : DirD) (o : ObjD) : DirD × Int := bif !(chkO o == 0) then (d, chkO o) else bif !decide (o.owner = d.party) then (d, 15) else match lookD d (keyO o) with
  | some old => bif decide (o.version ≤ old.object.version) then (d, 11) else (storeD d o, 0)
  | none => bif decide ((d.objects.length : Int) ≥ 256) then (d, 3) else (storeD d o, 0)
abbrev SPut : List V → Option V := FT fun (t : DirD × ObjD × Unit) => if validDir t.1 = 0 ∧ t.1.next < 4611686018427387904 then some (putS t.1 t.2.1) else none
theorem con29 {Φ : Specs} (hg : Idl.Good Try.prog Φ) (h32 : Φ 32 = some SChk) (h33 : Φ 33 = some SKeyO) (h37 : Φ 37 = some SFre)
    (hop : Φ 40 = none) (hst : Φ 41 = none) (hcl : Φ 42 = none)
    (hsf : Φ 48 = none) (hsort : SortT Try.prog 48 7) (hcmp : Contract Try.prog 49 SCmpM) : Contract Try.prog 29 SPut := by
  refine conT hg k29 ic29 (by decide) fun C t r h => ?_
  obtain ⟨d, o, u⟩ := t
  dsimp only at h
  split at h
  · rename_i hv
    obtain ⟨hv, hnx⟩ := hv
    have hW := (valid_iff d).1 hv
    cases h
    have hmx := hW.max
    by_cases h1 : chkO o = 0
    · have e1 : (chkO o == 0) = true := by simpa using h1
      have e1' : (chkO o != 0) = false := by simpa using h1
      cases h2 : decide (o.owner = d.party) with
      | false =>
        have hp : putS d o = (d, 15) := by simp only [putS, e1, h2, Bool.not_true, Bool.not_false, cond_false, cond_true]
        rw [hp]
        simp +contextual only [go_sem, ↓reduceIte, Nat.reduceEqDiff, Nat.reduceAdd, Nat.reduceLeDiff, Nat.reduceLT, reduceCtorEq, c29, k29, h32, e1', h2, List.length_map, decL_enc Cod.dec_enc]
      | true =>
        have hp : putS d o = match lookD d (keyO o) with
          | some old => bif decide (o.version ≤ old.object.version) then (d, 11) else (storeD d o, 0)
          | none => bif decide ((d.objects.length : Int) ≥ 256) then (d, 3) else (storeD d o, 0) := by simp only [putS, e1, h2, Bool.not_true, cond_false]
        rw [hp]
        simp +contextual only [go_sem, ↓reduceIte, Nat.reduceEqDiff, Nat.reduceAdd, Nat.reduceLeDiff, Nat.reduceLT, reduceCtorEq, c29, k29, h32, e1', h2, List.length_map, hop]
        refine ct40 (n := 3) hg h33 (fun id hid => ?_) (fun k => ?_) (by omega) hW.len (LowC.top _ _) (by repeat (first | exact LowT.pnil | apply LowT.upd | apply LowT.prune | apply LowT.pcons | rfl)) fun τ' => ?_
        · simp only [updH]; (repeat' split) <;> rfl
        · simp only [updH]; rw [if_neg (by omega), if_neg (by omega), if_neg (by omega)]
        rw [ext_objs3]
        have hR := open_rel hW
        have hlk := hR.look hW (keyO o)
        have hml := hR.len hW.len
        unfold opO
        cases hL : lookD d (keyO o) with
        | some old =>
          rw [hL] at hlk
          cases h3 : decide (o.version ≤ old.object.version) with
          | true =>
            simp +contextual only [go_sem, ↓reduceIte, Nat.reduceEqDiff, Nat.reduceAdd, Nat.reduceLeDiff, Nat.reduceLT, reduceCtorEq, k29, h33, hlk, h3, List.length_map, decL_enc Cod.dec_enc]
            exact ⟨rfl, rfl⟩
          | false =>
            simp +contextual only [go_sem, ↓reduceIte, Nat.reduceEqDiff, Nat.reduceAdd, Nat.reduceLeDiff, Nat.reduceLT, reduceCtorEq, k29, h33, hlk, h3, hst, List.length_map, decL_enc Cod.dec_enc]
            refine ⟨rfl, ?_⟩
            have hlen1 : (lookD d (keyO o)).isSome = true ∨ d.objects.length < 256 := .inl (by rw [hL]; rfl)
            have hW' := store_wf hW h1 hlen1 (by omega)
            have hR' := store_rel hR o
            have hwn : IntKind.i64.wrap (d.next + 1) = d.next + 1 := by have := hW.n1; rw [IntKind.wrap_i64]; omega
            have hml' := hR'.len hW'.len
            have hmx' := hW'.max
            refine ct41 (r := 14) (mp := 8) (next := d.next) (m := openM d) hg h33 (by omega) (by omega) (by omega) rfl rfl (fun k => ?_) fun τ2 => ?_
            · simp only [updH]
              rw [if_neg (by omega), if_neg (by omega), if_neg (by omega), if_neg (by omega)]
              exact objsL_out (by simp only [List.length_cons, List.length_nil]; omega)
            simp +contextual only [go_sem, ↓reduceIte, Nat.reduceEqDiff, Nat.reduceAdd, Nat.reduceLeDiff, Nat.reduceLT, reduceCtorEq, k29, hcl, hwn]
            refine ct42 (r := 14) (mp := 8) (next := d.next + 1) (m := putO (openM d) (o, d.next)) (S := mks (storeD d o)) hg h37 hsf hsort hcmp (by omega) (by omega) (by omega) rfl rfl (fun k => ?_) (by omega) hR'.pm.symm (mks_sorted hW') (mks_data hW') fun τ3 n3 H3 vo vm hD hfr hun3 hge => ?_
            · simp only [updH]
              rw [if_neg (by omega), if_neg (by omega), if_neg (by omega), if_neg (by omega), if_neg (by omega), if_neg (by omega), if_neg (by omega)]
              exact objsL_out (by simp only [List.length_cons, List.length_nil]; omega)
            have h3b : H3 2 = .live 4 [zeroDC] true := hfr 2 (by omega) (by omega)
            rw [storeD, mks_of] at hD
            rw [cond_false]
            rcases hD with ⟨e0, _, _⟩ | ⟨oid, mid, rfl, rfl, q8, q9, q10, q11, q12⟩
            · simp at e0
            have z1 : (oid = 2) = False := by simp; omega
            have z2 : (mid = 2) = False := by simp; omega
            rw [show storeD d o = ofMks d.party (d.next + 1) ((mks d).filter (notK (keyO o)) ++ [⟨o, d.next⟩]) from rfl]
            generalize (mks d).filter (notK (keyO o)) ++ [(⟨o, d.next⟩ : MarkD)] = S at q8 q9
            have q8' : H3 oid = .live 6 ((S.map (·.object)).map Cod.enc) true := by rw [q8, List.map_map]; rfl
            have q9' : H3 mid = .live 1 ((S.map (·.mark)).map Cod.enc) true := by rw [q9, List.map_map]; rfl
            have t1 : ((S.map (·.object)).map Cod.enc : List V).take S.length = (S.map (·.object)).map Cod.enc := List.take_of_length_le (by simp)
            have t2 : ((S.map (·.mark)).map Cod.enc : List V).take S.length = (S.map (·.mark)).map Cod.enc := List.take_of_length_le (by simp)
            simp +contextual only [go_sem, ↓reduceIte, Nat.reduceEqDiff, Nat.reduceAdd, Nat.reduceLeDiff, Nat.reduceLT, reduceCtorEq, k29, h3b, q8', q9', z1, z2, t1, t2, isF_obs, isF_ints, List.length_map, Nat.zero_add, Nat.le_refl, true_and, and_true, decL_enc Cod.dec_enc]
            trivial
        | none =>
          rw [hL] at hlk
          cases h3 : decide ((d.objects.length : Int) ≥ 256) with
          | true =>
            simp +contextual only [go_sem, ↓reduceIte, Nat.reduceEqDiff, Nat.reduceAdd, Nat.reduceLeDiff, Nat.reduceLT, reduceCtorEq, k29, h33, hlk, hml, h3, List.length_map, decL_enc Cod.dec_enc]
            exact ⟨rfl, rfl⟩
          | false =>
            simp +contextual only [go_sem, ↓reduceIte, Nat.reduceEqDiff, Nat.reduceAdd, Nat.reduceLeDiff, Nat.reduceLT, reduceCtorEq, k29, h33, hlk, hml, h3, hst, List.length_map, decL_enc Cod.dec_enc]
            refine ⟨rfl, ?_⟩
            have hlen1 : (lookD d (keyO o)).isSome = true ∨ d.objects.length < 256 := .inr (by simp at h3; omega)
            have hW' := store_wf hW h1 hlen1 (by omega)
            have hR' := store_rel hR o
            have hwn : IntKind.i64.wrap (d.next + 1) = d.next + 1 := by have := hW.n1; rw [IntKind.wrap_i64]; omega
            have hml' := hR'.len hW'.len
            have hmx' := hW'.max
            refine ct41 (r := 14) (mp := 8) (next := d.next) (m := openM d) hg h33 (by omega) (by omega) (by omega) rfl rfl (fun k => ?_) fun τ2 => ?_
            · simp only [updH]
              rw [if_neg (by omega), if_neg (by omega), if_neg (by omega), if_neg (by omega)]
              exact objsL_out (by simp only [List.length_cons, List.length_nil]; omega)
            simp +contextual only [go_sem, ↓reduceIte, Nat.reduceEqDiff, Nat.reduceAdd, Nat.reduceLeDiff, Nat.reduceLT, reduceCtorEq, k29, hcl, hwn]
            refine ct42 (r := 14) (mp := 8) (next := d.next + 1) (m := putO (openM d) (o, d.next)) (S := mks (storeD d o)) hg h37 hsf hsort hcmp (by omega) (by omega) (by omega) rfl rfl (fun k => ?_) (by omega) hR'.pm.symm (mks_sorted hW') (mks_data hW') fun τ3 n3 H3 vo vm hD hfr hun3 hge => ?_
            · simp only [updH]
              rw [if_neg (by omega), if_neg (by omega), if_neg (by omega), if_neg (by omega), if_neg (by omega), if_neg (by omega), if_neg (by omega)]
              exact objsL_out (by simp only [List.length_cons, List.length_nil]; omega)
            have h3b : H3 2 = .live 4 [zeroDC] true := hfr 2 (by omega) (by omega)
            rw [storeD, mks_of] at hD
            rw [cond_false]
            rcases hD with ⟨e0, _, _⟩ | ⟨oid, mid, rfl, rfl, q8, q9, q10, q11, q12⟩
            · simp at e0
            have z1 : (oid = 2) = False := by simp; omega
            have z2 : (mid = 2) = False := by simp; omega
            rw [show storeD d o = ofMks d.party (d.next + 1) ((mks d).filter (notK (keyO o)) ++ [⟨o, d.next⟩]) from rfl]
            generalize (mks d).filter (notK (keyO o)) ++ [(⟨o, d.next⟩ : MarkD)] = S at q8 q9
            have q8' : H3 oid = .live 6 ((S.map (·.object)).map Cod.enc) true := by rw [q8, List.map_map]; rfl
            have q9' : H3 mid = .live 1 ((S.map (·.mark)).map Cod.enc) true := by rw [q9, List.map_map]; rfl
            have t1 : ((S.map (·.object)).map Cod.enc : List V).take S.length = (S.map (·.object)).map Cod.enc := List.take_of_length_le (by simp)
            have t2 : ((S.map (·.mark)).map Cod.enc : List V).take S.length = (S.map (·.mark)).map Cod.enc := List.take_of_length_le (by simp)
            simp +contextual only [go_sem, ↓reduceIte, Nat.reduceEqDiff, Nat.reduceAdd, Nat.reduceLeDiff, Nat.reduceLT, reduceCtorEq, k29, h3b, q8', q9', z1, z2, t1, t2, isF_obs, isF_ints, List.length_map, Nat.zero_add, Nat.le_refl, true_and, and_true, decL_enc Cod.dec_enc]
            trivial
    · have e1 : (chkO o == 0) = false := by simpa using h1
      have e1' : (chkO o != 0) = true := by simpa using h1
      have hp : putS d o = (d, chkO o) := by simp only [putS, e1, Bool.not_false, cond_true]
      rw [hp]
      simp +contextual only [go_sem, ↓reduceIte, Nat.reduceEqDiff, Nat.reduceAdd, Nat.reduceLeDiff, Nat.reduceLT, reduceCtorEq, c29, k29, h32, e1', List.length_map, decL_enc Cod.dec_enc]
  · cases h
end Go.Proofs.Ytaagkdmmdgajjaa
