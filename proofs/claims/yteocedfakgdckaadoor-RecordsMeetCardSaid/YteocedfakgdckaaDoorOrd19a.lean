/- Records: the events of a transaction that stand in order. -/
import Derived.Test.YteocedfakgdckaaDoorSrt19
import Derived.Test.YteocedfakgdckaaDoorUse20
import Derived.Test.YteocedfakgdckaaDoorIdent
namespace Go.Proofs.YteocedfakgdckaaDoor
set_option linter.all false
open Go.Idl
set_option maxHeartbeats 8000000
set_option maxRecDepth 100000
attribute [local go_sem] Tryd.underlying3 Tryd.underlying5 Tryd.underlying9 Tryd.underlying4
theorem callT_con {P : Program} {C : Ctx} {f : FuncId} {F : List V → Option V} (he : Idl.enters P f = true) (hc : Contract P f F) {vs : List V} {s : SF} {r : V} (hF : F vs = some r) (hf : vs.all V.isF = true) {K : V → SF → Prop} (hK : K r s) : CallT P C f vs s K := by
  refine ⟨he, fun tm w γ I args hS hl hrep => ?_⟩
  rw [List.all_eq_true] at hf
  refine (hc I w args vs r hl (fun j x u hx hu => (hrep j x u hx hu).frozenF (hf x (List.mem_of_getElem? hx))) hS.immS (Laid.keep hS.below.below C.laid) hF).mono ?_
  rintro e w' ⟨u, rfl, hb, hr⟩
  refine ⟨u, r, s, rfl, hK, γ, _, hS.grow hb (I' := fun g x => I g x ∨ (w.heap.size ≤ g ∧ g < w'.heap.size)) (fun _ _ h => .inl h) fun _ _ h => h, hr.mono (Pres.refl _ _) (fun _ _ h => h) (by simp [noPlaces])⟩
theorem ft_two {α β γ : Type} [Cod α] [Cod β] [CodR γ] (g : α × β × Unit → Option γ) (a : α) (b : β) : FT g [Cod.enc a, Cod.enc b] = FTc (g (a, b, ())) := by
  simp only [FT, decA_cons, decA_unit, Cod.dec_enc, dec2, FTb]
def keyEq (a b : EvD) : Bool := decide (a.station = b.station) && decide (a.txn = b.txn)
def dfE : EvD := ⟨⟨#[]⟩, ⟨#[]⟩, 0, 0, 0, 0, ⟨#[]⟩, false, 0, []⟩
def atE (l : List EvD) (x : Nat) : EvD := (l[x]?).getD dfE
structure OrdE (l : List EvD) : Prop where
  len1 : 1 ≤ l.length
  len : l.length ≤ 100000
  ev : ∀ x, x ∈ l → evS x = 0
  key : ∀ x y, x ∈ l → y ∈ l → keyEq x y = true
  asc : l.Pairwise fun a b => a.seq < b.seq
theorem evS_ok {e : EvD} (h : evS e = 0) : 0 ≤ e.seq ∧ e.seq ≤ 2147483647 ∧ e.rds.length ≤ 16 := by
  unfold evS at h
  cases h1 : (!okName e.station || !okName e.txn) with
  | true => rw [h1, cond_true] at h; cases h
  | false =>
    rw [h1, cond_false] at h
    cases h2 : (!numsS e) with
    | true => rw [h2, cond_true] at h; cases h
    | false =>
      rw [h2, cond_false] at h
      have h3 : numsS e = true := by simpa using h2
      simp only [numsS, inR, Bool.and_eq_true, decide_eq_true_eq] at h3
      cases h4 : (kindS e != 0) with
      | true => rw [h4, cond_true] at h; simp [h] at h4
      | false =>
        rw [h4, cond_false] at h
        unfold rdsS at h
        cases h5 : decide (e.rds.length > 16) with
        | true => rw [h5, cond_true] at h; cases h
        | false => simp at h5; omega
theorem con38 {Φ : Specs} (hg : Idl.Good Tryd.prog Φ) : Contract Tryd.prog 38 (FT fun (t : EvD × EvD × Unit) => if (0 ≤ t.1.seq ∧ t.1.seq ≤ 2147483647) ∧ 0 ≤ t.2.1.seq ∧ t.2.1.seq ≤ 2147483647 then some (t.1.seq - t.2.1.seq) else none) := by
  refine conT hg k38 ic38 (by decide) fun C t r h => ?_
  obtain ⟨a, b, u⟩ := t
  dsimp only at h
  split at h
  · rename_i hl
    cases h
    have hw : IntKind.i64.wrap (a.seq - b.seq) = a.seq - b.seq := by rw [IntKind.wrap_i64]; omega
    simp +contextual only [go_sem, ↓reduceIte, Nat.reduceEqDiff, Nat.reduceAdd, Nat.reduceLeDiff, Nat.reduceLT, reduceCtorEq, c38, k38, hw]
  · cases h
def cellsE (e : EvD) : List V := [Cod.enc e.station, Cod.enc e.txn, Cod.enc e.conn, Cod.enc e.seq, Cod.enc e.kind, Cod.enc e.time, Cod.enc e.token, Cod.enc e.offline, Cod.enc e.reason, Cod.enc e.rds]
theorem elsE (l : List EvD) : Els 10 fun x => cellsE (atE l x) := ⟨fun _ => rfl, fun _ => rfl, fun _ => rfl⟩
theorem cmpE {Φ : Specs} (hg : Idl.Good Tryd.prog Φ) {l : List EvD} (h : ∀ x, x ∈ l → evS x = 0) : CmpT Tryd.prog 38 (fun x => cellsE (atE l x)) fun x y => (atE l x).seq - (atE l y).seq := by
  have hs : ∀ x, 0 ≤ (atE l x).seq ∧ (atE l x).seq ≤ 2147483647 := fun x => by
    unfold atE
    cases hx : l[x]? with
    | none => exact ⟨Int.le_refl _, by decide⟩
    | some y => exact ⟨(evS_ok (h y (List.mem_of_getElem? hx))).1, (evS_ok (h y (List.mem_of_getElem? hx))).2.1⟩
  intro x y C s K hK
  refine callT_con (facts_enters ic38) (con38 hg) (r := .sc (.int .i64 ((atE l x).seq - (atE l y).seq))) ((ft_two _ (atE l x) (atE l y)).trans ?_) (by rfl) hK
  dsimp only
  rw [if_pos ⟨hs x, hs y⟩]
  rfl
theorem row_all (l : List EvD) : row (fun x => cellsE (atE l x)) (List.range l.length) = l.map Cod.enc := by
  apply List.ext_getElem?
  intro i
  rw [row, List.getElem?_map, List.getElem?_map]
  by_cases h : i < l.length
  · simp [h, atE]; rfl
  · simp [h]
end Go.Proofs.YteocedfakgdckaaDoor
namespace Go.Proofs.YteocedfakgdckaaDoor
set_option linter.all false
open Go.Idl
set_option maxHeartbeats 8000000
set_option maxRecDepth 100000
attribute [local go_sem] Tryd.underlying3 Tryd.underlying5 Tryd.underlying9 Tryd.underlying4 Tryd.underlying30 Tryd.underlying35
open Classical in
noncomputable abbrev SOrd : List V → Option V := FT fun (t : List EvD × Unit) => if OrdE t.1 then some (t.1, (0 : Int)) else none
theorem isF_evs (l : List EvD) : (l.map Cod.enc).all V.isF = true := by
  simp only [List.all_map, List.all_eq_true]
  intro x _
  rfl
theorem low_evs (n : Nat) (l : List EvD) : (l.map Cod.enc).all (V.low n) = true := by
  simp only [List.all_map, List.all_eq_true]
  intro x _
  rfl
theorem okE_evs (l : List EvD) : (l.map Cod.enc).all (okE 10) = true := by
  simp only [List.all_map, List.all_eq_true]
  intro x _
  rfl
theorem con16 {Φ : Specs} (hg : Idl.Good Tryd.prog Φ) (h35 : Φ 35 = some SEv) (hcl : Φ 36 = none) (hss : Φ 37 = none)
    (hst : Φ 65 = none) (hin : Φ 85 = none) (hsy : Φ 86 = none) : Contract Tryd.prog 16 SOrd := by
  refine conT hg k16 ic16 (by decide) fun C t r h => ?_
  obtain ⟨l, u⟩ := t
  dsimp only at h
  split at h
  case isFalse => cases h
  rename_i hO
  cases h
  have hl1 := hO.len1
  have hl2 := hO.len
  have hev := hO.ev
  obtain ⟨x0, hx0⟩ : ∃ x0, l[0]? = some x0 := ⟨l[0]'(by omega), by simp⟩
  have hm0 : x0 ∈ l := List.mem_of_getElem? hx0
  simp +contextual only [go_sem, ↓reduceIte, Nat.reduceEqDiff, Nat.reduceAdd, Nat.reduceLeDiff, Nat.reduceLT, reduceCtorEq, c16, k16]
  refine TriI.loopL hg k16 l (fun i (_ : Unit) => ⟨slotsL [(0, Cod.enc l), (2, .sc (.slice none 0 0)), (3, .sc (.int .i64 0)), (14, Cod.enc l), (15, .sc (.int .i64 l.length)), (16, .sc (.int .i64 i))], objsL [], 0⟩)
    (fun _ _ => True) () (.back rfl ?_) trivial ?_ ?_
  · simp +contextual only [go_sem, ↓reduceIte, Nat.reduceEqDiff, Nat.reduceAdd, Nat.reduceLeDiff, Nat.reduceLT, reduceCtorEq, List.length_map]
    rfl
  · intro _ _
    simp +contextual only [go_sem, ↓reduceIte, Nat.reduceEqDiff, Nat.reduceAdd, Nat.reduceLeDiff, Nat.reduceLT, reduceCtorEq, k16, Int.lt_irrefl, decide_false]
    refine TriI.loopL hg k16 l (fun i (_ : Unit) => ⟨slotsL [(0, Cod.enc l), (2, .sc (.slice none 0 0)), (3, .sc (.int .i64 0)), (26, Cod.enc l), (27, .sc (.int .i64 l.length)), (28, .sc (.int .i64 i))], objsL [], 0⟩)
      (fun _ _ => True) () (.back rfl ?_) trivial ?_ ?_
    · simp +contextual only [go_sem, ↓reduceIte, Nat.reduceEqDiff, Nat.reduceAdd, Nat.reduceLeDiff, Nat.reduceLT, reduceCtorEq, List.length_map]
      rfl
    · intro _ _
      simp +contextual only [go_sem, ↓reduceIte, Nat.reduceEqDiff, Nat.reduceAdd, Nat.reduceLeDiff, Nat.reduceLT, reduceCtorEq, k16, Int.lt_irrefl, decide_false, hcl]
      refine CallT.of_walk hg k36 ic36 (by simp) fun C1 hlow1 => ?_
      have b1 : l.length * 120 ≤ 68719476736 := by omega
      have b2 : l.length ≤ 4294967296 := by omega
      simp +contextual only [go_sem, ↓reduceIte, Nat.reduceEqDiff, Nat.reduceAdd, Nat.reduceLeDiff, Nat.reduceLT, reduceCtorEq, c36, k36]
      refine stepI_nil Tryd.underlying35 rfl fun b hb => ?_
      cases b with
      | true => exact absurd (hb rfl) (by intro h0; simp at h0; simp [h0] at hl1)
      | false =>
        have hT : List.drop 0 (List.take l.length (l.map Cod.enc)) = l.map Cod.enc := by rw [List.drop_zero, List.take_of_length_le (by simp)]
        simp +contextual only [go_sem, ↓reduceIte, Nat.reduceEqDiff, Nat.reduceAdd, Nat.reduceLeDiff, Nat.reduceLT, reduceCtorEq, k36, hss, b1, b2, okE_evs, List.length_map, Nat.zero_add, List.nil_append, hT]
        refine ctSS19 hg hst hin hsy (elsE l) (cmpE hg hev) (N := l.length) (by omega) (fun x y hxy hy => ?_) (by rw [row_all]; simp [updH]) ?_
        · have e1 : atE l x = l[x]'(by omega) := by unfold atE; rw [List.getElem?_eq_getElem (by omega)]; rfl
          have e2 : atE l y = l[y]'hy := by unfold atE; rw [List.getElem?_eq_getElem hy]; rfl
          have := List.pairwise_iff_getElem.1 hO.asc x y (by omega) hy hxy
          rw [e1, e2]; omega
        simp +contextual only [go_sem, ↓reduceIte, Nat.reduceEqDiff, Nat.reduceAdd, Nat.reduceLeDiff, Nat.reduceLT, reduceCtorEq, k16]
        refine TriI.loopL hg k16 l (fun i (out : List EvD) => ⟨slotsL [(2, .sc (.slice none 0 0)), (3, .sc (.int .i64 0)), (10, .own 1 0 out.length), (53, .own 0 0 l.length), (54, .sc (.int .i64 l.length)), (55, .sc (.int .i64 i))], objsL [.live 10 (l.map Cod.enc) true, .live 10 (out.map Cod.enc) true], 2⟩)
          (fun xs out => l = out ++ xs) [] (.ren [some 1, none] rfl rfl 0 ?_) rfl ?_ ?_
        · simp +contextual only [go_sem, ↓reduceIte, Nat.reduceEqDiff, Nat.reduceAdd, Nat.reduceLeDiff, Nat.reduceLT, reduceCtorEq, List.length_map, List.map_nil, List.length_nil, low_evs]
          rfl
        · intro out h1
          rw [List.append_nil] at h1
          subst h1
          have hTk : (l.map Cod.enc).take l.length = l.map Cod.enc := List.take_of_length_le (by simp)
          simp +contextual only [go_sem, ↓reduceIte, Nat.reduceEqDiff, Nat.reduceAdd, Nat.reduceLeDiff, Nat.reduceLT, reduceCtorEq, k16, Int.lt_irrefl, decide_false, Nat.zero_add, List.length_map, Nat.le_refl, isF_evs, hTk, decL_enc Cod.dec_enc, true_and, and_true]
        · intro i out x xs hd hlt hx h1
          have hw := wrap_nat hlt (by omega)
          have hltI : ((i : Nat) : Int) < ((l.length : Nat) : Int) := by omega
          have h2 : out.length + (xs.length + 1) = l.length := by rw [h1]; simp
          have b3 : (out.length + 1) * 120 ≤ 68719476736 := by omega
          have b4 : out.length + 1 ≤ 4294967296 := by omega
          rcases List.eq_nil_or_concat out with h0 | ⟨P, y, h0⟩
          · have hn0 : (((out.length : Nat) : Int) == 0) = true := by rw [h0]; rfl
            simp +contextual only [go_sem, ↓reduceIte, Nat.reduceEqDiff, Nat.reduceAdd, Nat.reduceLeDiff, Nat.reduceLT, reduceCtorEq, k16, hn0, lt_dec hlt, hltI, hx, hw, b3, b4, okE, beq_self_eq_true, List.length_map, List.length_nil, List.getElem?_map, Option.map_some, Int.natCast_nonneg, Int.toNat_natCast, Nat.zero_add, List.drop_zero, true_and, and_true]
            refine ⟨by rfl, out ++ [x], by rw [h1]; simp, .ren [some 0, some 18] rfl rfl 1 ?_⟩
            simp +contextual only [go_sem, ↓reduceIte, Nat.reduceEqDiff, Nat.reduceAdd, Nat.reduceLeDiff, Nat.reduceLT, reduceCtorEq, List.map_append, List.map_cons, List.map_nil, List.length_append, List.length_cons, List.length_nil, List.all_append, low_evs, Nat.zero_add]
          · rw [List.concat_eq_append] at h0
            have hyx : (y.seq != x.seq) = true := by
              have := hO.asc
              rw [h1, h0, List.pairwise_append] at this
              have := this.2.2 y (by simp) x (by simp)
              simp; omega
            subst h0
            have hPl : P.length ≤ 100000 := by simp at h2; omega
            have hn1 : ((((P ++ [y]).length : Nat) : Int) == 0) = false := by simp; omega
            have hwn : IntKind.i64.wrap ((((P ++ [y]).length : Nat) : Int) - 1) = ((P.length : Nat) : Int) := by rw [List.length_append, List.length_cons, List.length_nil, IntKind.wrap_i64]; omega
            have hPN : ((P.length : Nat) : Int) < (((P ++ [y]).length : Nat) : Int) := by simp; omega
            have hy : (P ++ [y])[P.length]? = some y := by simp
            generalize hQ : P ++ [y] = Q at *
            simp +contextual only [go_sem, ↓reduceIte, Nat.reduceEqDiff, Nat.reduceAdd, Nat.reduceLeDiff, Nat.reduceLT, reduceCtorEq, k16, lt_dec hlt, hltI, hx, hw, b3, b4, hn1, hwn, hPN, hy, hyx, okE, List.length_map, List.length_nil, List.getElem?_map, Option.map_some, Int.natCast_nonneg, Int.toNat_natCast, Nat.zero_add, List.drop_zero, true_and, and_true]
            refine ⟨by rfl, Q ++ [x], by rw [h1]; simp, .ren [some 0, some 18] rfl rfl 1 ?_⟩
            simp +contextual only [go_sem, ↓reduceIte, Nat.reduceEqDiff, Nat.reduceAdd, Nat.reduceLeDiff, Nat.reduceLT, reduceCtorEq, List.map_append, List.map_cons, List.map_nil, List.length_append, List.length_cons, List.length_nil, List.all_append, low_evs, Nat.zero_add]
    · intro i _ x xs hd hlt hx _
      have hw := wrap_nat hlt (by omega)
      have hkey : keyEq x x0 = true := hO.key x x0 (List.mem_of_getElem? hx) hm0
      unfold keyEq at hkey
      rw [Bool.and_eq_true] at hkey
      obtain ⟨q1, q2⟩ := hkey
      simp +contextual only [go_sem, ↓reduceIte, Nat.reduceEqDiff, Nat.reduceAdd, Nat.reduceLeDiff, Nat.reduceLT, reduceCtorEq, k16, lt_dec hlt, hx, hx0, hw, q1, q2, Bool.not_true, List.length_map, List.getElem?_map, Option.map_some, Int.natCast_nonneg, Int.toNat_natCast, Int.toNat_zero, Int.le_refl]
      exact ⟨by rfl, (), trivial, .back rfl (by simp +contextual only [go_sem, ↓reduceIte, Nat.reduceEqDiff, Nat.reduceAdd, Nat.reduceLeDiff, Nat.reduceLT, reduceCtorEq])⟩
  · intro i _ x xs hd hlt hx _
    have hw := wrap_nat hlt (by omega)
    have hbx := hev x (List.mem_of_getElem? hx)
    have d0 : ((0 : Int) != 0) = false := rfl
    simp +contextual only [go_sem, ↓reduceIte, Nat.reduceEqDiff, Nat.reduceAdd, Nat.reduceLeDiff, Nat.reduceLT, reduceCtorEq, k16, lt_dec hlt, hx, hw, hbx, d0, h35, List.length_map, List.getElem?_map, Option.map_some, Int.natCast_nonneg, Int.toNat_natCast]
    exact ⟨(), trivial, .back rfl (by simp +contextual only [go_sem, ↓reduceIte, Nat.reduceEqDiff, Nat.reduceAdd, Nat.reduceLeDiff, Nat.reduceLT, reduceCtorEq])⟩
end Go.Proofs.YteocedfakgdckaaDoor
namespace Go.Proofs.YteocedfakgdckaaDoor
set_option linter.all false
open Go.Idl
set_option maxHeartbeats 8000000
set_option maxRecDepth 100000
attribute [local go_sem] Tryd.underlying3 Tryd.underlying5 Tryd.underlying9 Tryd.underlying4 Tryd.underlying30 Tryd.underlying35 Tryd.underlying27
def has0 (l : List EvD) : Bool := l.any fun x => x.seq == 0
def hasE (l : List EvD) : Bool := l.any fun x => !(x.seq == 0) && x.kind == 3
def complS (l : List EvD) : Bool := has0 l && hasE l
abbrev SCompl : List V → Option V := FT fun (t : List EvD × Unit) => if t.1.length ≤ 1000000 then some (complS t.1) else none
theorem con17 {Φ : Specs} (hg : Idl.Good Tryd.prog Φ) : Contract Tryd.prog 17 SCompl := by
  refine conT hg k17 ic17 (by decide) fun C t r h => ?_
  obtain ⟨l, u⟩ := t
  dsimp only at h
  by_cases hl : l.length ≤ 1000000
  case neg => rw [if_neg hl] at h; cases h
  rw [if_pos hl] at h
  cases h
  simp +contextual only [go_sem, ↓reduceIte, Nat.reduceEqDiff, Nat.reduceAdd, Nat.reduceLeDiff, Nat.reduceLT, reduceCtorEq, c17, k17]
  refine TriI.scope hg k17 ?_
  simp +contextual only [go_sem, ↓reduceIte, Nat.reduceEqDiff, Nat.reduceAdd, Nat.reduceLeDiff, Nat.reduceLT, reduceCtorEq, k17]
  refine TriI.loopL hg k17 l (fun i (a : Bool × Bool) => ⟨slotsL [(3, .sc (.bool a.1)), (4, .sc (.bool a.2)), (7, Cod.enc l), (8, .sc (.int .i64 l.length)), (9, .sc (.int .i64 i))], objsL [], 0⟩)
    (fun xs a => (a.1 || has0 xs) = has0 l ∧ (a.2 || hasE xs) = hasE l ∧ (a.1 && a.2) = false) (false, false) (.back rfl ?_) ⟨rfl, rfl, rfl⟩ ?_ ?_
  · simp +contextual only [go_sem, ↓reduceIte, Nat.reduceEqDiff, Nat.reduceAdd, Nat.reduceLeDiff, Nat.reduceLT, reduceCtorEq, List.length_map]
    rfl
  · rintro ⟨s, e⟩ ⟨h1, h2, h3⟩
    have g1 : has0 l = s := by rw [← h1]; simp [has0]
    have g2 : hasE l = e := by rw [← h2]; simp [hasE]
    have hc : complS l = (s && e) := by rw [complS, g1, g2]
    rw [hc]
    dsimp only
    cases s <;> cases e <;> simp +contextual only [go_sem, ↓reduceIte, Nat.reduceEqDiff, Nat.reduceAdd, Nat.reduceLeDiff, Nat.reduceLT, reduceCtorEq, k17, Int.lt_irrefl, decide_false] <;> rfl
  · rintro i ⟨s, e⟩ x xs hd hlt hx ⟨h1, h2, h3⟩
    have hw := wrap_nat hlt (by omega)
    have e1 : has0 (x :: xs) = (x.seq == 0 || has0 xs) := rfl
    have e2 : hasE (x :: xs) = (!(x.seq == 0) && x.kind == 3 || hasE xs) := rfl
    rw [e1] at h1
    rw [e2] at h2
    dsimp only at h1 h2 h3 ⊢
    have hfin : ∀ s' e', (s' || has0 xs) = has0 l → (e' || hasE xs) = hasE l → s' = true → e' = true → true = complS l := fun s' e' g1 g2 g3 g4 => by rw [complS, ← g1, ← g2, g3, g4]; rfl
    cases b0 : (x.seq == 0) <;> cases b3 : (x.kind == 3) <;> cases s <;> cases e <;> simp only [b0, b3, Bool.true_or, Bool.false_or, Bool.true_and, Bool.false_and, Bool.not_true, Bool.not_false] at h1 h2 h3
    all_goals simp +contextual only [go_sem, ↓reduceIte, Nat.reduceEqDiff, Nat.reduceAdd, Nat.reduceLeDiff, Nat.reduceLT, reduceCtorEq, k17, lt_dec hlt, hx, b0, b3, List.length_map, List.getElem?_map, Option.map_some, Int.natCast_nonneg, Int.toNat_natCast]
    all_goals first
      | (cases h3; done)
      | (rw [complS, ← h1, ← h2]; rfl)
      | exact ⟨(false, false), ⟨by simpa using h1, by simpa using h2, rfl⟩, .back rfl (by simp +contextual only [go_sem, ↓reduceIte, Nat.reduceEqDiff, Nat.reduceAdd, Nat.reduceLeDiff, Nat.reduceLT, reduceCtorEq, hw])⟩
      | exact ⟨(true, false), ⟨by simpa using h1, by simpa using h2, rfl⟩, .back rfl (by simp +contextual only [go_sem, ↓reduceIte, Nat.reduceEqDiff, Nat.reduceAdd, Nat.reduceLeDiff, Nat.reduceLT, reduceCtorEq, hw])⟩
      | exact ⟨(false, true), ⟨by simpa using h1, by simpa using h2, rfl⟩, .back rfl (by simp +contextual only [go_sem, ↓reduceIte, Nat.reduceEqDiff, Nat.reduceAdd, Nat.reduceLeDiff, Nat.reduceLT, reduceCtorEq, hw])⟩
def mrgE : List Rdg → List EvD → List Rdg × Int
  | acc, [] => (acc, 0)
  | acc, x :: l => bif (mrgS acc x.rds).2 != 0 then ([], (mrgS acc x.rds).2) else mrgE (mrgS acc x.rds).1 l
def okRd (l : List EvD) : Bool := l.all fun x => decide (x.rds.length ≤ 1000000)
abbrev SMrgE : List V → Option V := FT fun (t : List EvD × Unit) => if t.1.length ≤ 1000000 ∧ okRd t.1 = true then some (mrgE [] t.1) else none
theorem mrgS_len {a b : List Rdg} (h : (mrgS a b).2 = 0) : (mrgS a b).1.length ≤ 1024 := by
  unfold mrgS at h ⊢
  cases h1 : (!asc a || !asc b) with
  | true => rw [h1, cond_true] at h; cases h
  | false =>
    rw [h1, cond_false] at h
    cases h2 : mrgL a b with
    | none => rw [h2] at h; cases h
    | some l =>
      rw [h2] at h
      dsimp only at h ⊢
      cases h3 : decide (l.length > 1024) with
      | true => rw [h3, cond_true] at h; cases h
      | false => rw [cond_false, cond_false]; simpa using h3
theorem con18 {Φ : Specs} (hg : Idl.Good Tryd.prog Φ) (h40 : Φ 40 = some SMrg) : Contract Tryd.prog 18 SMrgE := by
  refine conT hg k18 ic18 (by decide) fun C t r h => ?_
  obtain ⟨l, u⟩ := t
  dsimp only at h
  by_cases hl : l.length ≤ 1000000 ∧ okRd l = true
  case neg => rw [if_neg hl] at h; cases h
  rw [if_pos hl] at h
  obtain ⟨hl, hok⟩ := hl
  cases h
  simp +contextual only [go_sem, ↓reduceIte, Nat.reduceEqDiff, Nat.reduceAdd, Nat.reduceLeDiff, Nat.reduceLT, reduceCtorEq, c18, k18]
  refine TriI.loopL hg k18 l (fun i (a : V × List Rdg) => ⟨slotsL [(2, .sc (.slice none 0 0)), (3, .sc (.int .i64 0)), (4, a.1), (8, Cod.enc l), (9, .sc (.int .i64 l.length)), (10, .sc (.int .i64 i))], objsL [], 0⟩)
    (fun xs a => ((a.1 = .sc (.slice none 0 0) ∧ a.2 = []) ∨ a.1 = Cod.enc a.2) ∧ a.2.length ≤ 1024 ∧ mrgE a.2 xs = mrgE [] l ∧ okRd xs = true) (.sc (.slice none 0 0), []) (.back rfl ?_) ⟨.inl ⟨rfl, rfl⟩, by decide, rfl, hok⟩ ?_ ?_
  · simp +contextual only [go_sem, ↓reduceIte, Nat.reduceEqDiff, Nat.reduceAdd, Nat.reduceLeDiff, Nat.reduceLT, reduceCtorEq, List.length_map]
    rfl
  · rintro ⟨v, acc⟩ ⟨hv, h1, h2, h3⟩
    have hm : mrgE [] l = (acc, 0) := by rw [← h2]; rfl
    rw [hm]
    dsimp only at hv ⊢
    rcases hv with ⟨rfl, rfl⟩ | rfl
    · simp +contextual only [go_sem, ↓reduceIte, Nat.reduceEqDiff, Nat.reduceAdd, Nat.reduceLeDiff, Nat.reduceLT, reduceCtorEq, k18, Int.lt_irrefl, decide_false]
    · simp +contextual only [go_sem, ↓reduceIte, Nat.reduceEqDiff, Nat.reduceAdd, Nat.reduceLeDiff, Nat.reduceLT, reduceCtorEq, k18, Int.lt_irrefl, decide_false]
  · rintro i ⟨v, acc⟩ x xs hd hlt hx ⟨hv, h1, h2, h3⟩
    have hw := wrap_nat hlt (by omega)
    rw [okRd, List.all_cons, Bool.and_eq_true, decide_eq_true_eq] at h3
    obtain ⟨h3, h4⟩ := h3
    have hb : acc.length ≤ 1000000 ∧ x.rds.length ≤ 1000000 := ⟨by dsimp only at h1; omega, h3⟩
    have hm : mrgE acc (x :: xs) = bif (mrgS acc x.rds).2 != 0 then ([], (mrgS acc x.rds).2) else mrgE (mrgS acc x.rds).1 xs := rfl
    dsimp only at hv h2 ⊢
    have hfin : ((mrgS acc x.rds).2 != 0) = true → mrgE [] l = ([], (mrgS acc x.rds).2) := fun g => by rw [← h2, hm, g, cond_true]
    have hnext : ((mrgS acc x.rds).2 != 0) = false → (mrgS acc x.rds).1.length ≤ 1024 ∧ mrgE (mrgS acc x.rds).1 xs = mrgE [] l := fun g => ⟨mrgS_len (by simpa using g), by rw [← h2, hm, g, cond_false]⟩
    rcases hv with ⟨rfl, rfl⟩ | rfl
    · simp +contextual only [go_sem, ↓reduceIte, Nat.reduceEqDiff, Nat.reduceAdd, Nat.reduceLeDiff, Nat.reduceLT, reduceCtorEq, k18, lt_dec hlt, hx, hw, hb, h40, and_self, List.length_map, List.getElem?_map, Option.map_some, Int.natCast_nonneg, Int.toNat_natCast]
      refine ⟨fun g => (hfin g).symm, fun g => ⟨(Cod.enc (mrgS [] x.rds).1, (mrgS [] x.rds).1), ⟨.inr rfl, (hnext g).1, (hnext g).2, h4⟩, .back rfl ?_⟩⟩
      simp +contextual only [go_sem, ↓reduceIte, Nat.reduceEqDiff, Nat.reduceAdd, Nat.reduceLeDiff, Nat.reduceLT, reduceCtorEq]
    · simp +contextual only [go_sem, ↓reduceIte, Nat.reduceEqDiff, Nat.reduceAdd, Nat.reduceLeDiff, Nat.reduceLT, reduceCtorEq, k18, lt_dec hlt, hx, hw, hb, h40, and_self, List.length_map, List.getElem?_map, Option.map_some, Int.natCast_nonneg, Int.toNat_natCast]
      refine ⟨fun g => (hfin g).symm, fun g => ⟨(Cod.enc (mrgS acc x.rds).1, (mrgS acc x.rds).1), ⟨.inr rfl, (hnext g).1, (hnext g).2, h4⟩, .back rfl ?_⟩⟩
      simp +contextual only [go_sem, ↓reduceIte, Nat.reduceEqDiff, Nat.reduceAdd, Nat.reduceLeDiff, Nat.reduceLT, reduceCtorEq]
def sameRec (a b : RecD) : Bool := decide (a.station = b.station) && decide (a.txn = b.txn) && a.conn == b.conn && decide (a.token = b.token) && a.start == b.start && a.stop == b.stop && eqR a.rds b.rds && a.energy == b.energy && a.reason == b.reason && (a.denied == b.denied)
abbrev SSameR : List V → Option V := FT fun (t : RecD × RecD × Unit) => if t.1.rds.length ≤ 1000000 then some (sameRec t.1 t.2.1) else none
theorem con9 {Φ : Specs} (hg : Idl.Good Tryd.prog Φ) (hq : Φ 31 = some SEqR) : Contract Tryd.prog 9 SSameR := by
  refine conT hg k9 ic9 (by decide) fun C t r h => ?_
  obtain ⟨a, b, u⟩ := t
  dsimp only at h
  split at h
  · rename_i hle
    cases h
    simp +contextual only [go_sem, ↓reduceIte, Nat.reduceEqDiff, Nat.reduceAdd, Nat.reduceLeDiff, Nat.reduceLT, reduceCtorEq, c9, k9, hq, hle]
    rfl
  · cases h
def zeroR : RecD := ⟨⟨#[]⟩, ⟨#[]⟩, 0, ⟨#[]⟩, 0, 0, [], 0, 0, false, false⟩
def badM (c : Int) : List EvD → Bool
  | [] => false
  | x :: l => (x.kind == 3 && decide (l ≠ [])) || x.conn != c || badM c l
def offS (l : List EvD) : Bool := l.any fun x => x.offline
def hdE (l : List EvD) : EvD := l.head?.getD dfE
def ltE (l : List EvD) : EvD := l.getLast?.getD dfE
def rdOff (s e : EvD) (g : List Rdg) : Bool := decide (g.length = 0) || (g.head?.map (·.time)).getD 0 != s.time || lastT g != e.time
def recOf (s e : EvD) (o : Bool) (g : List Rdg) (t : Int) : RecD := ⟨s.station, s.txn, s.conn, s.token, s.time, e.time, g, t, e.reason, o, e.reason == 5⟩
def makeE (es : List EvD) (m : Int) : RecD × Int :=
  bif !complS es then (zeroR, 22) else bif badM (hdE es).conn es then (zeroR, 1) else bif (mrgE [] es).2 != 0 then (zeroR, (mrgE [] es).2) else
  bif rdOff (hdE es) (ltE es) (mrgE [] es).1 then (zeroR, 1) else bif (totS (mrgE [] es).1 m).2 != 0 then (zeroR, (totS (mrgE [] es).1 m).2) else
  bif decide ((totS (mrgE [] es).1 m).1 > 1099511627776) then (zeroR, 2) else (recOf (hdE es) (ltE es) (offS es) (mrgE [] es).1 (totS (mrgE [] es).1 m).1, 0)
def makeS (l : List EvD) (m : Int) : RecD × Int := makeE l m
end Go.Proofs.YteocedfakgdckaaDoor
