/- Agree. -/
import Derived.Test.YtalhbhbkdfmhgaaRoam48g
namespace Go.Proofs.Ytalhbhbkdfmhgaa
set_option linter.all false
open Go.Idl
set_option maxHeartbeats 8000000
set_option maxRecDepth 100000
attribute [local go_sem] agPty agCdr agDis eqDis agDir agObj eqItm Try.underlying3 Try.underlying5 Try.underlying9 Try.underlying4
def prR (p : PartyD) (a b : ByteArray) : List CdrD := p.cdrs.filter (pairB a b)
def agrR (a b : PartyD) : Bool := (prR a a.name b.name).all fun c => sameAt eqC c (getI CdrD.id (prR b a.name b.name) c.id)
def agrD (a b : PartyD) : Bool := (pairDs a a.name b.name).all fun d => sameAt (fun x y => eqDs y x) d (getI Disp.cdr (pairDs b a.name b.name) d.cdr)
def agrS (a b : PartyD) : Bool := decide ((prR a a.name b.name).length = (prR b a.name b.name).length) && (agrR a b && (decide ((pairDs a a.name b.name).length = (pairDs b a.name b.name).length) && agrD a b))
abbrev SAgA : List V → Option V := FT fun (t : PartyD × PartyD × Unit) => if okS t.1 = true ∧ okS t.2.1 = true ∧ validP t.1 = 0 ∧ validP t.2.1 = 0 then some (agrS t.1 t.2.1) else none
theorem con10 {Φ : Specs} (hg : Idl.Good Try.prog Φ) (hpr : Φ 27 = none) (h48 : Φ 48 = some SPair) (h28 : Φ 28 = some SEqC) (h29 : Φ 29 = some SPDs) : Contract Try.prog 10 SAgA := by
  refine conT hg k10 ic10 (by decide) fun C t r h => ?_
  obtain ⟨a, b, u⟩ := t
  dsimp only at h
  split at h
  · rename_i hl
    obtain ⟨hla, hlb, hva, hvb⟩ := hl
    obtain ⟨ha, hai⟩ := okS_iff.1 hla
    obtain ⟨hb, hbi⟩ := okS_iff.1 hlb
    have wa := wp hva
    have wb := wp hvb
    have a1 := wa.c
    have b1 := wb.c
    cases h
    simp +contextual only [go_sem, ↓reduceIte, Nat.reduceEqDiff, Nat.reduceAdd, Nat.reduceLeDiff, Nat.reduceLT, reduceCtorEq, c10, k10, hpr]
    refine CallT.of_walk hg k27 ic27 (by simp) fun C1 hlow1 => ?_
    have hl1 : LowC C1 4 := hlow1 4 (by repeat (first | exact LowT.pnil | apply LowT.upd | apply LowT.prune | apply LowT.pcons | rfl | exact low_cdrs _ _ | exact low_diss _ _)) (LowC.top _ _)
    simp +contextual only [go_sem, ↓reduceIte, Nat.reduceEqDiff, Nat.reduceAdd, Nat.reduceLeDiff, Nat.reduceLT, reduceCtorEq, c27, k27, List.length_map, Option.map_none]
    refine TriI.loopL hg k27 a.cdrs (fun i (l : List CdrD) => ⟨slotsL [(1, .sc (.string a.name)), (2, .sc (.string b.name)), (3, .ref 2 0 0), (8, .mapr 3), (9, .sc (.int .i64 l.length)), (14, Cod.enc a.cdrs), (15, .sc (.int .i64 a.cdrs.length)), (16, .sc (.int .i64 i))],
        objsL [.live 7 [Cod.enc a] true, .live 7 [Cod.enc b] true, .live 7 [Cod.enc a] true, .ext (.map (keysM (kvM CdrD.id l)) (valsM (kvM CdrD.id l)))], 4⟩)
      (fun xs l => ∃ pre, a.cdrs = pre ++ xs ∧ l = pre.filter (pairB a.name b.name)) [] (.back rfl ?_) ⟨[], rfl, rfl⟩ ?_ ?_
    · simp +contextual only [go_sem, ↓reduceIte, Nat.reduceEqDiff, Nat.reduceAdd, Nat.reduceLeDiff, Nat.reduceLT, reduceCtorEq, List.length_map]
      exact ⟨rfl, rfl, rfl⟩
    · rintro l ⟨pre, hp, hf⟩
      rw [List.append_nil] at hp
      have hl : l = prR a a.name b.name := by rw [hf, ← hp]; rfl
      subst hl
      simp +contextual only [go_sem, ↓reduceIte, Nat.reduceEqDiff, Nat.reduceAdd, Nat.reduceLeDiff, Nat.reduceLT, reduceCtorEq, k27, hpr, Int.lt_irrefl, decide_false, List.length_map]
      generalize hA : prR a a.name b.name = A
      refine CallT.of_walk hg k27 ic27 (by simp) fun C2 hlow2 => ?_
      have hl2 : LowC C2 6 := hlow2 6 (by repeat (first | exact LowT.pnil | apply LowT.upd | apply LowT.prune | apply LowT.pcons | rfl | exact low_cdrs _ _ | exact low_diss _ _)) (LowC.top _ _)
      simp +contextual only [go_sem, ↓reduceIte, Nat.reduceEqDiff, Nat.reduceAdd, Nat.reduceLeDiff, Nat.reduceLT, reduceCtorEq, c27, k27, List.length_map, Option.map_none]
      refine TriI.loopL hg k27 b.cdrs (fun i (l : List CdrD) => ⟨slotsL [(1, .sc (.string a.name)), (2, .sc (.string b.name)), (3, .ref 4 0 0), (8, .mapr 5), (9, .sc (.int .i64 l.length)), (14, Cod.enc b.cdrs), (15, .sc (.int .i64 b.cdrs.length)), (16, .sc (.int .i64 i))],
          objsL [.live 7 [Cod.enc a] true, .live 7 [Cod.enc b] true, .live 7 [Cod.enc a] true, .ext (.map (keysM (kvM CdrD.id A)) (valsM (kvM CdrD.id A))), .live 7 [Cod.enc b] true, .ext (.map (keysM (kvM CdrD.id l)) (valsM (kvM CdrD.id l)))], 6⟩)
        (fun xs l => ∃ pre, b.cdrs = pre ++ xs ∧ l = pre.filter (pairB a.name b.name)) [] (.back rfl ?_) ⟨[], rfl, rfl⟩ ?_ ?_
      · simp +contextual only [go_sem, ↓reduceIte, Nat.reduceEqDiff, Nat.reduceAdd, Nat.reduceLeDiff, Nat.reduceLT, reduceCtorEq, List.length_map, low_kc]
        exact ⟨rfl, rfl⟩
      · rintro l ⟨pre, hp, hf⟩
        rw [List.append_nil] at hp
        have hl : l = prR b a.name b.name := by rw [hf, ← hp]; rfl
        subst hl
        simp +contextual only [go_sem, ↓reduceIte, Nat.reduceEqDiff, Nat.reduceAdd, Nat.reduceLeDiff, Nat.reduceLT, reduceCtorEq, k27, hpr, Int.lt_irrefl, decide_false, List.length_map]
        generalize hB : prR b a.name b.name = B
        refine ⟨fun hne => ?_, fun heq => ?_⟩
        · have hne' : ¬ A.length = B.length := by
            intro e; rw [e] at hne; simp at hne
          unfold agrS
          rw [hA, hB, decide_eq_false hne', Bool.false_and]
        · have heq' : A.length = B.length := by
            have : (A.length : Int) = B.length := by simpa using heq
            omega
          have hag : agrS a b = (agrR a b && (decide ((pairDs a a.name b.name).length = (pairDs b a.name b.name).length) && agrD a b)) := by
            unfold agrS
            rw [hA, hB, decide_eq_true heq', Bool.true_and]
          have hrr : agrR a b = A.all fun c => sameAt eqC c (getI CdrD.id B c.id) := by unfold agrR; rw [hA, hB]
          have hkl : (keysM (kvM CdrD.id A)).length = A.length := by rw [keysM_len, kv_len]
          refine stepI_rangeM Try.underlying70 rfl (ks := keysM (kvM CdrD.id A)) (vs := valsM (kvM CdrD.id A)) (id := 3) rfl (isF_kc _) rfl rfl ?_
          simp +contextual only [go_sem, ↓reduceIte, Nat.reduceEqDiff, Nat.reduceAdd, Nat.reduceLeDiff, Nat.reduceLT, reduceCtorEq, k10]
          refine TriI.loopA hg k10 (fun p : List Nat × Option Nat => ⟨slotsL [(2, .ref 0 0 0), (3, .ref 1 0 0), (7, .mapr 5), (44, .ref 6 0 0)],
              objsL [.live 7 [Cod.enc a] true, .live 7 [Cod.enc b] true, .live 7 [Cod.enc a] true, .dead, .live 7 [Cod.enc b] true, .ext (.map (keysM (kvM CdrD.id B)) (valsM (kvM CdrD.id B))), .ext (.miter (keysM (kvM CdrD.id A)) (valsM (kvM CdrD.id A)) p.1 p.2)], 7⟩)
            (fun p => p.1.Nodup ∧ (∀ j, j ∈ p.1 → j < A.length) ∧ ∀ j c, A[j]? = some c → j ∉ p.1 → sameAt eqC c (getI CdrD.id B c.id) = true) (fun p => p.1.length)
            (List.range A.length, none) (.back rfl ?_) ⟨List.nodup_range, fun j hj => by simpa using hj, fun j c hc hj => ?_⟩ ?_
          · simp +contextual only [go_sem, ↓reduceIte, Nat.reduceEqDiff, Nat.reduceAdd, Nat.reduceLeDiff, Nat.reduceLT, reduceCtorEq, low_kc, kv_len]
          · have := (List.getElem?_eq_some_iff.1 hc).1
            exact absurd (by simpa using this) hj
          · rintro ⟨left, last⟩ ⟨q1, q2, q3⟩
            dsimp only at q1 q2 q3 ⊢
            simp +contextual only [go_sem, ↓reduceIte, Nat.reduceEqDiff, Nat.reduceAdd, Nat.reduceLeDiff, Nat.reduceLT, reduceCtorEq, k10]
            refine stepI_nextM rfl rfl rfl (fun hd => ?_) fun j hj hjl => ?_
            · have hl0 : left = [] := List.eq_nil_iff_forall_not_mem.2 fun j hj => hd j (by rw [hkl]; exact q2 j hj) hj
              subst hl0
              have hr1 : agrR a b = true := by
                rw [hrr, List.all_eq_true]
                intro c hc
                obtain ⟨j, hj⟩ := List.getElem?_of_mem hc
                exact q3 j c hj (by simp)
              rw [hag, hr1, Bool.true_and]
              have pa : a.cdrs.length ≤ 10000 ∧ a.disputes.length ≤ 10000 := ⟨by omega, by have := wa.d; omega⟩
              have pb : b.cdrs.length ≤ 10000 ∧ b.disputes.length ≤ 10000 := ⟨by omega, by have := wb.d; omega⟩
              unfold agrD
              have lL : (pairDs a a.name b.name).length ≤ 256 := Nat.le_trans (List.length_filter_le _ _) wa.d
              have lR : (pairDs b a.name b.name).length ≤ 256 := Nat.le_trans (List.length_filter_le _ _) wb.d
              have hRn : ((pairDs b a.name b.name).map Disp.cdr).Nodup := (List.filter_sublist.map _).nodup wb.dids
              generalize hL : pairDs a a.name b.name = L at *
              generalize hR : pairDs b a.name b.name = R at *
              simp +contextual only [go_sem, ↓reduceIte, Nat.reduceEqDiff, Nat.reduceAdd, Nat.reduceLeDiff, Nat.reduceLT, reduceCtorEq, k10]
              refine TriI.ofDrw hg k10 ?_
              simp +contextual only [go_sem, ↓reduceIte, Nat.reduceEqDiff, Nat.reduceAdd, Nat.reduceLeDiff, Nat.reduceLT, reduceCtorEq, k10, h29, pa, pb, and_self, hL, hR, List.length_map]
              refine ⟨rfl, fun hne2 => ?_, fun heq2 => ?_⟩
              · have hne' : ¬ L.length = R.length := by
                  intro e; rw [e] at hne2; simp at hne2
                rw [decide_eq_false hne', Bool.false_and]
              · have heq' : L.length = R.length := by
                  have : (L.length : Int) = R.length := by simpa using heq2
                  omega
                rw [decide_eq_true heq', Bool.true_and]
                refine TriI.loopL hg k10 R (fun i (l : List Disp) => ⟨slotsL [(13, Cod.enc L), (15, .mapr 0), (84, Cod.enc R), (85, .sc (.int .i64 R.length)), (86, .sc (.int .i64 i))],
                    objsL [.ext (.map (keysM (kvM Disp.cdr l)) (valsM (kvM Disp.cdr l)))], 1⟩)
                  (fun xs l => R = l ++ xs) [] (.ren [some 21] rfl rfl 0 ?_) rfl ?_ ?_
                · simp +contextual only [go_sem, ↓reduceIte, Nat.reduceEqDiff, Nat.reduceAdd, Nat.reduceLeDiff, Nat.reduceLT, reduceCtorEq, List.length_map]
                  exact ⟨rfl, rfl, rfl⟩
                · intro l hl
                  rw [List.append_nil] at hl
                  subst hl
                  simp +contextual only [go_sem, ↓reduceIte, Nat.reduceEqDiff, Nat.reduceAdd, Nat.reduceLeDiff, Nat.reduceLT, reduceCtorEq, k10, Int.lt_irrefl, decide_false, List.length_map]
                  refine TriI.loopL hg k10 L (fun i (_ : Unit) => ⟨slotsL [(15, .mapr 0), (95, Cod.enc L), (96, .sc (.int .i64 L.length)), (97, .sc (.int .i64 i))],
                      objsL [.ext (.map (keysM (kvM Disp.cdr R)) (valsM (kvM Disp.cdr R)))], 1⟩)
                    (fun xs _ => (xs.all fun d => sameAt (fun x y => eqDs y x) d (getI Disp.cdr R d.cdr)) = L.all fun d => sameAt (fun x y => eqDs y x) d (getI Disp.cdr R d.cdr)) () (.back rfl ?_) rfl ?_ ?_
                  · simp +contextual only [go_sem, ↓reduceIte, Nat.reduceEqDiff, Nat.reduceAdd, Nat.reduceLeDiff, Nat.reduceLT, reduceCtorEq, List.length_map, low_kd]
                    rfl
                  · intro _ hinv
                    simp +contextual only [go_sem, ↓reduceIte, Nat.reduceEqDiff, Nat.reduceAdd, Nat.reduceLeDiff, Nat.reduceLT, reduceCtorEq, k10, Int.lt_irrefl, decide_false, List.length_map]
                    exact hinv
                  · intro i _ x xs hdr hlt hx hinv
                    have hw := wrap_nat hlt (by omega)
                    rw [List.all_cons] at hinv
                    have hlk := look_kv Disp.cdr x.cdr R
                    cases e : getI Disp.cdr R x.cdr with
                    | none =>
                      rw [e] at hlk hinv
                      simp +contextual only [go_sem, ↓reduceIte, Nat.reduceEqDiff, Nat.reduceAdd, Nat.reduceLeDiff, Nat.reduceLT, reduceCtorEq, k10, lt_dec hlt, hx, hw, hlk, List.length_map, List.getElem?_map, Option.map_some, Int.natCast_nonneg, Int.toNat_natCast]
                      exact hinv
                    | some o =>
                      rw [e] at hlk hinv
                      simp +contextual only [go_sem, ↓reduceIte, Nat.reduceEqDiff, Nat.reduceAdd, Nat.reduceLeDiff, Nat.reduceLT, reduceCtorEq, k10, lt_dec hlt, hx, hw, hlk, List.length_map, List.getElem?_map, Option.map_some, Int.natCast_nonneg, Int.toNat_natCast]
                      refine ⟨fun h => ?_, fun h => ⟨(), ?_, .back rfl ?_⟩⟩
                      · have h0 : (!eqDs o x) = true := h
                        have h' : eqDs o x = false := by simpa using h0
                        rw [← hinv, sameAt, h', Bool.false_and]
                      · have h0 : (!eqDs o x) = false := h
                        have h' : eqDs o x = true := by simpa using h0
                        rw [sameAt, h', Bool.true_and] at hinv
                        exact hinv
                      · simp +contextual only [go_sem, ↓reduceIte, Nat.reduceEqDiff, Nat.reduceAdd, Nat.reduceLeDiff, Nat.reduceLT, reduceCtorEq, low_kd, low_diss]
                · intro i l x xs hdr hlt hx hinv
                  have hw := wrap_nat hlt (by omega)
                  have hno : hasI Disp.cdr l x.cdr = false := by rw [hinv] at hRn; exact nodup_has hRn
                  have hput := put_kv Disp.cdr hno
                  simp +contextual only [go_sem, ↓reduceIte, Nat.reduceEqDiff, Nat.reduceAdd, Nat.reduceLeDiff, Nat.reduceLT, reduceCtorEq, k10, lt_dec hlt, hx, hw, putF_kd, hput, List.length_map, List.getElem?_map, Option.map_some, Int.natCast_nonneg, Int.toNat_natCast]
                  refine ⟨l ++ [x], by rw [hinv]; simp, .back rfl ?_⟩
                  simp +contextual only [go_sem, ↓reduceIte, Nat.reduceEqDiff, Nat.reduceAdd, Nat.reduceLeDiff, Nat.reduceLT, reduceCtorEq, low_kd, low_diss]
            · have hjA : j < A.length := q2 j hj
              obtain ⟨c, hc⟩ : ∃ c, A[j]? = some c := ⟨A[j], by simp [hjA]⟩
              have hkj : (keysM (kvM CdrD.id A))[j]? = some (.string c.id) := by simp [keysM, kvM, hc]; rfl
              have hvj : (valsM (kvM CdrD.id A))[j]? = some (Cod.enc c) := by simp [valsM, kvM, hc]
              have hcA : c ∈ A := List.mem_of_getElem? hc
              have l1 : c.items.length ≤ 1000000 := okIt_mem hai (by rw [← hA] at hcA; exact (List.mem_filter.1 hcA).1)
              simp +contextual only [go_sem, ↓reduceIte, Nat.reduceEqDiff, Nat.reduceAdd, Nat.reduceLeDiff, Nat.reduceLT, reduceCtorEq, k10]
              refine stepI_entryM rfl rfl hkj hvj (entry_none rfl) ?_
              have hof : V.ofV (.string c.id) = .sc (.string c.id) := rfl
              have hlk := look_kv CdrD.id c.id B
              have hpl := perm_left q1 hj
              have hll : (left.filter fun x => decide (x ≠ j)).length < left.length := by
                have := hpl.length_eq
                rw [List.length_cons] at this
                omega
              have hfal : sameAt eqC c (getI CdrD.id B c.id) = false → false = agrS a b := fun hs => by
                have h1 : agrR a b = false := by
                  cases hh : agrR a b with
                  | false => rfl
                  | true => rw [hrr, List.all_eq_true] at hh; rw [hh c hcA] at hs; cases hs
                rw [hag, h1, Bool.false_and]
              cases e : getI CdrD.id B c.id with
              | none =>
                rw [e] at hlk hfal
                simp +contextual only [go_sem, ↓reduceIte, Nat.reduceEqDiff, Nat.reduceAdd, Nat.reduceLeDiff, Nat.reduceLT, reduceCtorEq, k10, hlk, hof]
                exact hfal rfl
              | some o =>
                rw [e] at hlk hfal
                have hoB := (mem_get e).1
                have l2 : o.items.length ≤ 1000000 := okIt_mem hbi (by rw [← hB] at hoB; exact (List.mem_filter.1 hoB).1)
                simp +contextual only [go_sem, ↓reduceIte, Nat.reduceEqDiff, Nat.reduceAdd, Nat.reduceLeDiff, Nat.reduceLT, reduceCtorEq, k10, hlk, hof, h28, l1, l2, and_self]
                refine ⟨fun h => ?_, fun h => ⟨(left.filter (fun x => decide (x ≠ j)), some j), hll, ⟨q1.filter _, fun k hk => q2 k (List.mem_filter.1 hk).1, fun k d hd hk => ?_⟩, .back rfl ?_⟩⟩
                · have h' : eqC c o = false := by simpa using h
                  exact hfal h'
                · have h' : eqC c o = true := by simpa using h
                  by_cases ekj : k = j
                  · subst ekj
                    rw [hc] at hd
                    cases hd
                    rw [e]
                    exact h'
                  · exact q3 k d hd fun hm => hk (List.mem_filter.2 ⟨hm, by simpa using ekj⟩)
                · simp +contextual only [go_sem, ↓reduceIte, Nat.reduceEqDiff, Nat.reduceAdd, Nat.reduceLeDiff, Nat.reduceLT, reduceCtorEq, low_kc]
      · rintro i l x xs hdr hlt hx ⟨pre, hp, hf⟩
        have hw := wrap_nat hlt (by omega)
        have hln : l.length ≤ pre.length := by rw [hf]; exact List.length_filter_le _ _
        have hpl : pre.length ≤ 256 := by have := congrArg List.length hp; rw [List.length_append] at this; omega
        have hwn : IntKind.i64.wrap ((l.length : Int) + 1) = ((l.length + 1 : Nat) : Int) := by rw [IntKind.wrap_i64]; omega
        have hid := wb.ids
        rw [hp] at hid
        have hno : hasI CdrD.id l x.id = false := by rw [hf]; exact has_filter (nodup_has hid)
        have hput := put_kv CdrD.id hno
        simp +contextual only [go_sem, ↓reduceIte, Nat.reduceEqDiff, Nat.reduceAdd, Nat.reduceLeDiff, Nat.reduceLT, reduceCtorEq, k27, lt_dec hlt, hx, hw, hwn, h48, putF_kc, hput, List.length_map, List.getElem?_map, Option.map_some, Int.natCast_nonneg, Int.toNat_natCast]
        refine ⟨fun hq => ⟨l ++ [x], ⟨pre ++ [x], by rw [hp]; simp, by rw [List.filter_append, List.filter_cons_of_pos hq, List.filter_nil, hf]⟩, .back rfl ?_⟩, fun hq => ⟨l, ⟨pre ++ [x], by rw [hp]; simp, by rw [List.filter_append, List.filter_cons_of_neg (by simp [hq]), List.filter_nil, hf, List.append_nil]⟩, .back rfl ?_⟩⟩
        · simp +contextual only [go_sem, ↓reduceIte, Nat.reduceEqDiff, Nat.reduceAdd, Nat.reduceLeDiff, Nat.reduceLT, reduceCtorEq, low_kc, low_cdrs, low_diss, List.length_append, List.length_cons, List.length_nil, Nat.zero_add]
        · simp +contextual only [go_sem, ↓reduceIte, Nat.reduceEqDiff, Nat.reduceAdd, Nat.reduceLeDiff, Nat.reduceLT, reduceCtorEq, low_kc, low_cdrs, low_diss]
    · rintro i l x xs hdr hlt hx ⟨pre, hp, hf⟩
      have hw := wrap_nat hlt (by omega)
      have hln : l.length ≤ pre.length := by rw [hf]; exact List.length_filter_le _ _
      have hpl : pre.length ≤ 256 := by have := congrArg List.length hp; rw [List.length_append] at this; omega
      have hwn : IntKind.i64.wrap ((l.length : Int) + 1) = ((l.length + 1 : Nat) : Int) := by rw [IntKind.wrap_i64]; omega
      have hid := wa.ids
      rw [hp] at hid
      have hno : hasI CdrD.id l x.id = false := by rw [hf]; exact has_filter (nodup_has hid)
      have hput := put_kv CdrD.id hno
      simp +contextual only [go_sem, ↓reduceIte, Nat.reduceEqDiff, Nat.reduceAdd, Nat.reduceLeDiff, Nat.reduceLT, reduceCtorEq, k27, lt_dec hlt, hx, hw, hwn, h48, putF_kc, hput, List.length_map, List.getElem?_map, Option.map_some, Int.natCast_nonneg, Int.toNat_natCast]
      refine ⟨fun hq => ⟨l ++ [x], ⟨pre ++ [x], by rw [hp]; simp, by rw [List.filter_append, List.filter_cons_of_pos hq, List.filter_nil, hf]⟩, .back rfl ?_⟩, fun hq => ⟨l, ⟨pre ++ [x], by rw [hp]; simp, by rw [List.filter_append, List.filter_cons_of_neg (by simp [hq]), List.filter_nil, hf, List.append_nil]⟩, .back rfl ?_⟩⟩
      · simp +contextual only [go_sem, ↓reduceIte, Nat.reduceEqDiff, Nat.reduceAdd, Nat.reduceLeDiff, Nat.reduceLT, reduceCtorEq, low_kc, low_cdrs, low_diss, List.length_append, List.length_cons, List.length_nil, Nat.zero_add]
      · simp +contextual only [go_sem, ↓reduceIte, Nat.reduceEqDiff, Nat.reduceAdd, Nat.reduceLeDiff, Nat.reduceLT, reduceCtorEq, low_kc, low_cdrs, low_diss]
  · cases h
end Go.Proofs.Ytalhbhbkdfmhgaa
