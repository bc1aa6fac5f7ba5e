/- The outbox: copies, join, New, Push. -/
import Derived.Test.YteocedfakgdckaaDoorEnc19c
namespace Go.Proofs.YteocedfakgdckaaDoor
set_option linter.all false
open Go.Idl
set_option maxHeartbeats 16000000
set_option maxRecDepth 100000
theorem agObx : agOf Tryd.prog 62 = some (some 3) := by kernel_rfl
attribute [local go_sem] Tryd.underlying3 Tryd.underlying5 Tryd.underlying141 Tryd.underlying9 Tryd.underlying4 agInt agErr agFs Tryd.underlying22 agEv19 agObx
abbrev SClR : List V → Option V := FT fun (t : List Rdg × Unit) => if t.1.length ≤ 1000000 then some t.1 else none
theorem okE_rds19 (l : List Rdg) : (l.map Cod.enc).all (okE 2) = true := by
  simp only [List.all_map, List.all_eq_true]
  intro x _
  rfl
theorem con76 {Φ : Specs} (hg : Idl.Good Tryd.prog Φ) : Contract Tryd.prog 76 SClR := by
  refine conT hg k76 ic76 (by decide) fun C t r h => ?_
  obtain ⟨l, u⟩ := t
  dsimp only at h
  split at h
  case isFalse => cases h
  rename_i hl
  obtain rfl : l = r := Option.some.inj h
  simp +contextual only [go_sem, ↓reduceIte, Nat.reduceEqDiff, Nat.reduceAdd, Nat.reduceLeDiff, Nat.reduceLT, reduceCtorEq, c76, k76]
  refine stepI_nil Tryd.underlying27 rfl fun b hb => ?_
  have b1 : l.length * 16 ≤ 68719476736 := by omega
  have b2 : l.length ≤ 4294967296 := by omega
  cases b with
  | true =>
    have h0 : l = [] := by simpa using hb rfl
    subst h0
    simp +contextual only [go_sem, ↓reduceIte, Nat.reduceEqDiff, Nat.reduceAdd, Nat.reduceLeDiff, Nat.reduceLT, reduceCtorEq, k76]
  | false =>
    simp +contextual only [go_sem, ↓reduceIte, Nat.reduceEqDiff, Nat.reduceAdd, Nat.reduceLeDiff, Nat.reduceLT, reduceCtorEq, k76, b1, b2, okE_rds19, isF_rds, tk_rds, List.length_map, Nat.zero_add, Nat.mul_one, List.nil_append, List.drop_zero, Nat.le_refl, and_self, decL_enc Cod.dec_enc]
abbrev SClE : List V → Option V := FT fun (t : EvD × Unit) => if t.1.rds.length ≤ 1000000 then some t.1 else none
theorem con53 {Φ : Specs} (hg : Idl.Good Tryd.prog Φ) (h76 : Φ 76 = some SClR) : Contract Tryd.prog 53 SClE := by
  refine conT hg k53 ic53 (by decide) fun C t r h => ?_
  obtain ⟨e, u⟩ := t
  dsimp only at h
  split at h
  case isFalse => cases h
  rename_i hl
  obtain rfl : e = r := Option.some.inj h
  simp +contextual only [go_sem, ↓reduceIte, Nat.reduceEqDiff, Nat.reduceAdd, Nat.reduceLeDiff, Nat.reduceLT, reduceCtorEq, c53, k53, h76, hl, isF_rds, tk_rds, decL_enc Cod.dec_enc]
def rdsLe (l : List EvD) : Prop := ∀ e, e ∈ l → e.rds.length ≤ 1000000
instance (l : List EvD) : Decidable (rdsLe l) := by unfold rdsLe; exact inferInstance
structure OuL where
  pre : List EvD
  id : Nat
  n : Nat
  H : Heap
structure OuInv (o0 : Idl.Obj) (l xs : List EvD) (p : OuL) : Prop where
  eq : l = p.pre ++ xs
  h0 : p.H 0 = o0
  lt : 0 < p.id ∧ p.id < p.n
  ob : p.H p.id = .live 10 (p.pre.map Cod.enc) true
  un : ∀ k, p.H (p.n + k) = .unborn
theorem isF_ev19 (l : List EvD) : (l.map Cod.enc).all V.isF = true := by
  simp only [List.all_map, List.all_eq_true]
  intro x _
  rfl
theorem tk_ev19 (l : List EvD) : List.take l.length (l.map Cod.enc) = l.map Cod.enc := List.take_of_length_le (by simp)
abbrev SJoin : List V → Option V := FT fun (t : List EvD × List EvD × EvD × Unit) => if t.1.length ≤ 1000 ∧ t.2.1.length = 0 ∧ rdsLe t.1 ∧ t.2.2.1.rds.length ≤ 1000000 then some (t.1 ++ [t.2.2.1]) else none
theorem con44 {Φ : Specs} (hg : Idl.Good Tryd.prog Φ) (h53 : Φ 53 = some SClE) : Contract Tryd.prog 44 SJoin := by
  refine conT hg k44 ic44 (by decide) fun C t r h => ?_
  obtain ⟨l, b, e, u⟩ := t
  dsimp only at h
  split at h
  case isFalse => cases h
  rename_i hl
  obtain ⟨hl, hb, hr, he⟩ := hl
  obtain rfl := List.eq_nil_of_length_eq_zero hb
  obtain rfl := Option.some.inj h
  have w1 : IntKind.i64.wrap ((l.length : Int) + ((0 : Nat) : Int)) = (l.length : Int) := by rw [IntKind.wrap_i64]; omega
  have w2 : IntKind.i64.wrap ((l.length : Int) + 1) = (l.length : Int) + 1 := by rw [IntKind.wrap_i64]; omega
  have m2 : (0 : Int) ≤ (l.length : Int) + 1 := by omega
  have m3 : (l.length : Int) + 1 ≤ 4294967296 := by omega
  have m4 : 120 * ((l.length : Int) + 1).toNat ≤ 281474976710656 := by omega
  simp +contextual only [go_sem, ↓reduceIte, Nat.reduceEqDiff, Nat.reduceAdd, Nat.reduceLeDiff, Nat.reduceLT, reduceCtorEq, c44, k44, w1, w2, m2, m3, m4, List.length_map, List.map_nil, List.length_nil, Int.le_refl, Int.toNat_natCast, Int.toNat_zero, List.replicate_zero]
  refine triH fun H1 hH1 => ?_
  obtain ⟨o0, ho0⟩ : ∃ o : Idl.Obj, o = .live 10 [Cod.enc e] true := ⟨_, rfl⟩
  have ho0' := ho0
  rw [EvD.enc_eq] at ho0
  simp only [go_sem] at ho0
  refine TriI.loopL hg k44 l (fun i (p : OuL) => ⟨slotsL [(1, .slice 10 []), (5, .ref 0 0 0), (7, .own p.id 0 p.pre.length), (19, Cod.enc l), (20, .sc (.int .i64 l.length)), (21, .sc (.int .i64 i))], p.H, p.n⟩) (OuInv o0 l) ⟨[], 1, 2, H1⟩ (.slots ?_) ⟨rfl, by dsimp only; rw [hH1, ho0]; rfl, ⟨by dsimp only; omega, by dsimp only; omega⟩, by dsimp only; rw [hH1]; rfl, fun k => by dsimp only; rw [hH1, updH_ne (by omega), updH_ne (by omega)]⟩ ?_ ?_
  · simp +contextual only [go_sem, ↓reduceIte, Nat.reduceEqDiff, Nat.reduceAdd, Nat.reduceLeDiff, Nat.reduceLT, reduceCtorEq, List.length_map]
    rfl
  · rintro ⟨pre, id, n, H⟩ ⟨g1, g2, g3, g4, g5⟩
    dsimp only at g1 g2 g3 g4 g5 ⊢
    rw [List.append_nil] at g1
    subst g1
    rw [ho0] at g2
    simp +contextual only [go_sem, ↓reduceIte, Nat.reduceEqDiff, Nat.reduceAdd, Nat.reduceLeDiff, Nat.reduceLT, reduceCtorEq, k44, Int.lt_irrefl, decide_false, List.length_nil]
    refine TriI.loopL hg k44 ([] : List EvD) (fun i (_ : Unit) => ⟨slotsL [(5, .ref 0 0 0), (7, .own id 0 l.length), (32, .sc (.int .i64 0)), (33, .sc (.int .i64 i))], H, n⟩) (fun _ _ => True) () (.slots ?_) trivial ?_ ?_
    · simp +contextual only [go_sem, ↓reduceIte, Nat.reduceEqDiff, Nat.reduceAdd, Nat.reduceLeDiff, Nat.reduceLT, reduceCtorEq]
      exact ⟨rfl, rfl⟩
    · intro _ _
      have hz : ((0 : Nat) : Int) = 0 := rfl
      have hu : H n = .unborn := g5 0
      have y1 : (id = n) = False := by simp; omega
      have y2 : ∀ k, (id = n + k) = False := fun k => by simp; omega
      obtain ⟨L, hL⟩ : ∃ L, L = l ++ [e] := ⟨_, rfl⟩
      rw [← hL]
      have hlen : l.length + 1 = L.length := by rw [hL, List.length_append]; rfl
      have hcat : (l.map Cod.enc ++ [evV e (.slice 2 (e.rds.map Cod.enc))] : List V) = L.map Cod.enc := by rw [hL, List.map_append]; rfl
      have b1 : L.length * 120 ≤ 68719476736 := by omega
      have b2 : L.length ≤ 4294967296 := by omega
      have i1 := isF_ev19 L
      have i2 := tk_ev19 L
      clear hL
      have hok : okE 10 (evV e (.slice 2 (e.rds.map Cod.enc))) = true := rfl
      simp +contextual only [go_sem, ↓reduceIte, Nat.reduceEqDiff, Nat.reduceAdd, Nat.reduceLeDiff, Nat.reduceLT, reduceCtorEq, k44, Int.lt_irrefl, decide_false, List.length_nil, hz, g2, h53, he, hu, g5, y1, y2, g4, b1, b2, hok, hcat, hlen, i1, i2, isF_rds, tk_rds, Nat.zero_add, Nat.one_mul, Nat.mul_one, Nat.add_eq_left, Nat.left_eq_add, Nat.add_assoc, List.length_map, and_self, Nat.le_refl, decL_enc Cod.dec_enc]
    · intro i _ x xs hd
      simp at hd
  · rintro i ⟨pre, id, n, H⟩ x xs hd hlt hx ⟨g1, g2, g3, g4, g5⟩
    dsimp only at g1 g2 g3 g4 g5 ⊢
    have hw := wrap_nat hlt (by omega)
    have hu : H n = .unborn := g5 0
    have y1 : (id = n) = False := by simp; omega
    have y2 : ∀ k, (id = n + k) = False := fun k => by simp; omega
    have hpl : pre.length ≤ 1000 := by have := congrArg List.length g1; rw [List.length_append] at this; omega
    have b1 : (pre.length + 1) * 120 ≤ 68719476736 := by omega
    have b2 : pre.length + 1 ≤ 4294967296 := by omega
    have hok : okE 10 (evV x (.slice 2 (x.rds.map Cod.enc))) = true := rfl
    have hxr := hr x (by rw [g1]; simp)
    simp +contextual only [go_sem, ↓reduceIte, Nat.reduceEqDiff, Nat.reduceAdd, Nat.reduceLeDiff, Nat.reduceLT, reduceCtorEq, k44, lt_dec hlt, hx, hw, List.getElem?_map, Option.map_some, Int.natCast_nonneg, Int.toNat_natCast, List.length_map, h53, hxr, hu, g5, y1, y2, g4, b1, b2, hok, Nat.zero_add, Nat.one_mul, Nat.mul_one, Nat.add_eq_left, Nat.left_eq_add, Nat.add_assoc, and_self]
    have hcat : (pre.map Cod.enc ++ [evV x (.slice 2 (x.rds.map Cod.enc))] : List V) = (pre ++ [x]).map Cod.enc := by rw [List.map_append]; rfl
    rw [hcat]
    refine againH fun H' hH' => ?_
    refine ⟨⟨pre ++ [x], n + 3, n + 4, H'⟩, ⟨by rw [g1]; simp, ?_, ⟨by dsimp only; omega, by dsimp only; omega⟩, ?_, fun k => ?_⟩, .slots ?_⟩
    · dsimp only
      rw [hH']
      (repeat (refine (updH_ne (by omega)).trans ?_))
      exact g2
    · dsimp only
      rw [hH']
      exact updH_at
    · dsimp only
      rw [hH']
      (repeat (refine (updH_ne (by omega)).trans ?_))
      exact (congrArg H (Nat.add_assoc _ _ _)).trans (g5 _)
    · simp +contextual only [go_sem, ↓reduceIte, Nat.reduceEqDiff, Nat.reduceAdd, Nat.reduceLeDiff, Nat.reduceLT, reduceCtorEq, List.length_append, List.length_singleton]
end Go.Proofs.YteocedfakgdckaaDoor
namespace Go.Proofs.YteocedfakgdckaaDoor
set_option linter.all false
open Go.Idl
set_option maxHeartbeats 16000000
set_option maxRecDepth 100000
attribute [local go_sem] Tryd.underlying3 Tryd.underlying5 Tryd.underlying141 Tryd.underlying9 Tryd.underlying4 agInt agErr agFs Tryd.underlying22 agEv19 agObx
abbrev SNew : List V → Option V := FT fun (t : Int × Unit) => if 4 ≤ t.1 ∧ t.1 ≤ 256 then some ((⟨t.1, [], 0⟩ : OboxD), (0 : Int)) else none
theorem con20 {Φ : Specs} (hg : Idl.Good Tryd.prog Φ) : Contract Tryd.prog 20 SNew := by
  refine conT hg k20 ic20 (by decide) fun C t r h => ?_
  obtain ⟨n, u⟩ := t
  dsimp only at h
  split at h
  case isFalse => cases h
  rename_i hl
  obtain ⟨h1, h2⟩ := hl
  obtain rfl := Option.some.inj h
  have d1 : decide (n < 4) = false := by simp; omega
  have d2 : decide (n > 256) = false := by simp; omega
  simp +contextual only [go_sem, ↓reduceIte, Nat.reduceEqDiff, Nat.reduceAdd, Nat.reduceLeDiff, Nat.reduceLT, reduceCtorEq, c20, k20, d1, d2]
abbrev SPush : List V → Option V := FT fun (t : OboxD × EvD × Unit) => if evS t.2.1 = 0 ∧ (t.1.items.length : Int) < t.1.room ∧ t.1.items.length ≤ 1000 ∧ rdsLe t.1.items ∧ t.2.1.rds.length ≤ 1000000 then some ((⟨t.1.room, t.1.items ++ [t.2.1], t.1.lost⟩ : OboxD), (0 : Int)) else none
theorem con21 {Φ : Specs} (hg : Idl.Good Tryd.prog Φ) (h35 : Φ 35 = some SEv) (h44 : Φ 44 = some SJoin) : Contract Tryd.prog 21 SPush := by
  refine conT hg k21 ic21 (by decide) fun C t r h => ?_
  obtain ⟨o, e, u⟩ := t
  dsimp only at h
  split at h
  case isFalse => cases h
  rename_i hl
  obtain ⟨h1, h2, h3, h4, h5⟩ := hl
  obtain rfl := Option.some.inj h
  have d0 : ((0 : Int) != 0) = false := rfl
  have d1 : decide ((o.items.length : Int) < o.room) = true := decide_eq_true h2
  have hj : o.items.length ≤ 1000 ∧ ([] : List EvD).length = 0 ∧ rdsLe o.items ∧ e.rds.length ≤ 1000000 := ⟨h3, rfl, h4, h5⟩
  simp +contextual only [go_sem, ↓reduceIte, Nat.reduceEqDiff, Nat.reduceAdd, Nat.reduceLeDiff, Nat.reduceLT, reduceCtorEq, c21, k21, h35, h1, d0, d1, h44, h3, h4, h5, isF_ev19, tk_ev19, isF_rds, tk_rds, List.length_map, decL_enc Cod.dec_enc]
abbrev SHead : List V → Option V := FT fun (t : OboxD × Unit) => match t.1.items with
  | [] => some (z0E, false)
  | e :: _ => if e.rds.length ≤ 1000000 then some (e, true) else none
theorem con24 {Φ : Specs} (hg : Idl.Good Tryd.prog Φ) (h53 : Φ 53 = some SClE) : Contract Tryd.prog 24 SHead := by
  refine conT hg k24 ic24 (by decide) fun C t r h => ?_
  obtain ⟨⟨room, items, lost⟩, u⟩ := t
  dsimp only at h
  cases items with
  | nil =>
    obtain rfl := Option.some.inj h
    have d1 : ((((0 : Nat) : Int)) == 0) = true := rfl
    simp +contextual only [go_sem, ↓reduceIte, Nat.reduceEqDiff, Nat.reduceAdd, Nat.reduceLeDiff, Nat.reduceLT, reduceCtorEq, c24, k24, d1, List.map_nil, List.length_nil, z0E]
  | cons e rest =>
    dsimp only at h
    split at h
    case isFalse => cases h
    rename_i hl
    obtain rfl := Option.some.inj h
    have d1 : (((rest.length + 1 : Nat) : Int) == 0) = false := beq_false_of_ne (by omega)
    simp +contextual only [go_sem, ↓reduceIte, Nat.reduceEqDiff, Nat.reduceAdd, Nat.reduceLeDiff, Nat.reduceLT, reduceCtorEq, c24, k24, d1, h53, hl, isF_rds, tk_rds, List.length_map, List.length_cons, List.map_cons, Int.le_refl, Int.toNat_zero, decL_enc Cod.dec_enc]
abbrev SVob : List V → Option V := FT fun (t : OboxD × Unit) => if 4 ≤ t.1.room ∧ t.1.room ≤ 256 ∧ t.1.lost = 0 ∧ (t.1.items.length : Int) ≤ t.1.room ∧ (∀ e, e ∈ t.1.items → evS e = 0) then some (0 : Int) else none
theorem con46 {Φ : Specs} (hg : Idl.Good Tryd.prog Φ) (h35 : Φ 35 = some SEv) : Contract Tryd.prog 46 SVob := by
  refine conT hg k46 ic46 (by decide) fun C t r h => ?_
  obtain ⟨⟨room, items, lost⟩, u⟩ := t
  dsimp only at h
  split at h
  case isFalse => cases h
  rename_i hl
  obtain ⟨h1, h2, h3, h4, h5⟩ := hl
  obtain rfl := Option.some.inj h
  subst h3
  have d1 : decide (room < 4) = false := by simp; omega
  have d2 : decide (room > 256) = false := by simp; omega
  have d3 : decide ((0 : Int) < 0) = false := rfl
  have d4 : decide ((0 : Int) > 2147483647) = false := rfl
  have d5 : decide ((items.length : Int) > room) = false := by simp; omega
  have d0 : ((0 : Int) != 0) = false := rfl
  simp +contextual only [go_sem, ↓reduceIte, Nat.reduceEqDiff, Nat.reduceAdd, Nat.reduceLeDiff, Nat.reduceLT, reduceCtorEq, c46, k46, d1, d2, d3, d4, d5, List.length_map]
  refine triH fun H1 hH1 => ?_
  refine TriI.loopL hg k46 items (fun i (p : Nat × Heap) => ⟨slotsL [(1, .ref 0 0 0), (31, Cod.enc items), (32, .sc (.int .i64 items.length)), (33, .sc (.int .i64 i))], p.2, p.1⟩) (fun xs p => (∃ pre, items = pre ++ xs) ∧ ∀ k, p.2 (p.1 + k) = .unborn) (1, H1) (.slots ?_) ⟨⟨[], rfl⟩, fun k => by dsimp only; rw [hH1, updH_ne (by omega)]⟩ ?_ ?_
  · simp +contextual only [go_sem, ↓reduceIte, Nat.reduceEqDiff, Nat.reduceAdd, Nat.reduceLeDiff, Nat.reduceLT, reduceCtorEq, List.length_map]
    rfl
  · rintro ⟨n, H⟩ ⟨⟨pre, g1⟩, g2⟩
    dsimp only at g1 g2 ⊢
    simp +contextual only [go_sem, ↓reduceIte, Nat.reduceEqDiff, Nat.reduceAdd, Nat.reduceLeDiff, Nat.reduceLT, reduceCtorEq, k46, Int.lt_irrefl, decide_false]
  · rintro i ⟨n, H⟩ x xs hd hlt hx ⟨⟨pre, g1⟩, g2⟩
    dsimp only at g1 g2 ⊢
    have hw := wrap_nat hlt (by omega)
    have hu : H n = .unborn := g2 0
    have hev := h5 x (by rw [g1]; simp)
    simp +contextual only [go_sem, ↓reduceIte, Nat.reduceEqDiff, Nat.reduceAdd, Nat.reduceLeDiff, Nat.reduceLT, reduceCtorEq, k46, lt_dec hlt, hx, hw, List.getElem?_map, Option.map_some, Int.natCast_nonneg, Int.toNat_natCast, List.length_map, hu, h35, hev, d0]
    refine againH fun H' hH' => ?_
    refine ⟨(n + 1 + 1, H'), ⟨⟨pre ++ [x], by rw [g1]; simp⟩, fun k => ?_⟩, .slots ?_⟩
    · dsimp only
      rw [hH']
      (repeat (refine (updH_ne (by omega)).trans ?_))
      exact (congrArg H (by omega)).trans (g2 (2 + k))
    · simp +contextual only [go_sem, ↓reduceIte, Nat.reduceEqDiff, Nat.reduceAdd, Nat.reduceLeDiff, Nat.reduceLT, reduceCtorEq]
abbrev SAck : List V → Option V := FT fun (t : OboxD × ByteArray × Int × Unit) => match t.1.items with
  | [] => none
  | e :: rest => if e.txn = t.2.1 ∧ e.seq = t.2.2.1 ∧ rest.length ≤ 1000 ∧ rdsLe rest then some ((⟨t.1.room, rest, t.1.lost⟩ : OboxD), (0 : Int)) else none
structure AkInv (room lost : Int) (l xs : List EvD) (p : OuL) : Prop where
  eq : l = p.pre ++ xs
  h0 : p.H 0 = .live 3 [.agg [.sc (.int .i64 room), .own p.id 0 p.pre.length, .sc (.int .i64 lost)]] true
  h1 : p.H 1 = .live 3 [.agg [.sc (.int .i64 0), .sc (.slice none 0 0), .sc (.int .i64 0)]] true
  lt : 1 < p.id ∧ p.id < p.n
  ob : p.H p.id = .live 10 (p.pre.map Cod.enc) true
  un : ∀ k, p.H (p.n + k) = .unborn
theorem con27 {Φ : Specs} (hg : Idl.Good Tryd.prog Φ) (h53 : Φ 53 = some SClE) : Contract Tryd.prog 27 SAck := by
  refine conT hg k27 ic27 (by decide) fun C t r h => ?_
  obtain ⟨⟨room, items, lost⟩, txn, seq, u⟩ := t
  dsimp only at h
  cases items with
  | nil => cases h
  | cons e rest =>
    dsimp only at h
    split at h
    case isFalse => cases h
    rename_i hl
    obtain ⟨rfl, rfl, hl, hr⟩ := hl
    obtain rfl := Option.some.inj h
    have d1 : (((rest.length + 1 : Nat) : Int) == 0) = false := beq_false_of_ne (by omega)
    have d2 : decide (e.txn = e.txn) = true := decide_eq_true rfl
    have d3 : (e.seq != e.seq) = false := bne_self_eq_false _
    have m1 : (1 : Nat) ≤ rest.length + 1 := by omega
    have m2 : Int.toNat 1 = 1 := rfl
    have m3 : (0 : Int) ≤ 1 := by decide
    have m4 : (0 : Int) ≤ (rest.length : Int) := by omega
    have m5 : (rest.length : Int) ≤ 4294967296 := by omega
    have m6 : 120 * rest.length ≤ 281474976710656 := by omega
    have hT : List.drop 1 (List.take (rest.length + 1) (Cod.enc e :: rest.map Cod.enc)) = rest.map Cod.enc := by
      rw [List.take_of_length_le (by simp)]; rfl
    have mz : ((((0 : Nat) : Int))) = 0 := rfl
    by_cases h0 : rest = []
    · subst h0
      have d1' : ((((1 : Nat) : Int)) == 0) = false := rfl
      have m5' : (0 : Int) ≤ 4294967296 := by decide
      simp +contextual only [go_sem, ↓reduceIte, Nat.reduceEqDiff, Nat.reduceAdd, Nat.reduceLeDiff, Nat.reduceLT, reduceCtorEq, c27, k27, d1', d2, d3, m2, m3, mz, m5', Nat.mul_zero, Nat.zero_le, List.length_map, List.length_cons, List.map_cons, List.map_nil, List.length_nil, Int.le_refl, Int.toNat_zero, Int.toNat_natCast, Int.natCast_nonneg, Nat.le_refl, and_self, List.replicate_zero]
      refine TriI.loopL hg k27 ([] : List EvD) (fun i (_ : Unit) => ⟨slotsL [(3, .ref 0 0 0), (6, .ref 1 0 0), (46, .sc (.int .i64 0)), (47, .sc (.int .i64 i))], _, 3⟩) (fun _ _ => True) () (.slots ?_) trivial ?_ ?_
      · simp +contextual only [go_sem, ↓reduceIte, Nat.reduceEqDiff, Nat.reduceAdd, Nat.reduceLeDiff, Nat.reduceLT, reduceCtorEq]
        rfl
      · intro _ _
        simp +contextual only [go_sem, ↓reduceIte, Nat.reduceEqDiff, Nat.reduceAdd, Nat.reduceLeDiff, Nat.reduceLT, reduceCtorEq, k27, Int.lt_irrefl, decide_false, List.length_nil, mz]
      · intro i _ x xs hd
        simp at hd
    · have m7 : (1 = rest.length + 1) = False := by
        have := List.length_pos_iff.2 h0
        simp; omega
      have i1 := isF_ev19 rest
      have i2 := tk_ev19 rest
      simp +contextual only [go_sem, ↓reduceIte, Nat.reduceEqDiff, Nat.reduceAdd, Nat.reduceLeDiff, Nat.reduceLT, reduceCtorEq, c27, k27, d1, d2, d3, m1, m2, m3, m4, m5, m6, m7, hT, i2, List.length_map, List.length_cons, List.map_cons, Int.le_refl, Int.toNat_zero, Int.toNat_natCast, Int.natCast_nonneg, Nat.le_refl, and_self, List.replicate_zero]
      refine triH fun H1 hH1 => ?_
      refine TriI.loopL hg k27 rest (fun i (p : OuL) => ⟨slotsL [(3, .ref 0 0 0), (6, .ref 1 0 0), (45, Cod.enc rest), (46, .sc (.int .i64 rest.length)), (47, .sc (.int .i64 i))], p.H, p.n⟩) (AkInv room lost rest) ⟨[], 2, 3, H1⟩ (.slots ?_) ⟨rfl, by dsimp only; rw [hH1]; rfl, by dsimp only; rw [hH1]; rfl, ⟨by dsimp only; omega, by dsimp only; omega⟩, by dsimp only; rw [hH1]; rfl, fun k => by dsimp only; rw [hH1]; (repeat (refine (updH_ne (by omega)).trans ?_)); rfl⟩ ?_ ?_
      · simp +contextual only [go_sem, ↓reduceIte, Nat.reduceEqDiff, Nat.reduceAdd, Nat.reduceLeDiff, Nat.reduceLT, reduceCtorEq, List.length_map]
        rfl
      · rintro ⟨pre, id, n, H⟩ ⟨g1, g2, g3, g4, g5, g6⟩
        dsimp only at g1 g2 g3 g4 g5 g6 ⊢
        rw [List.append_nil] at g1
        subst g1
        have y1 : (id = 1) = False := by simp; omega
        have y2 : (id = 0) = False := by simp; omega
        simp +contextual only [go_sem, ↓reduceIte, Nat.reduceEqDiff, Nat.reduceAdd, Nat.reduceLeDiff, Nat.reduceLT, reduceCtorEq, k27, Int.lt_irrefl, decide_false, g2, g3, g5, y1, y2, i1, i2, Nat.zero_add, Nat.le_refl, and_self, List.length_map, decL_enc Cod.dec_enc]
      · rintro i ⟨pre, id, n, H⟩ x xs hd hlt hx ⟨g1, g2, g3, g4, g5, g6⟩
        dsimp only at g1 g2 g3 g4 g5 g6 ⊢
        have hw := wrap_nat hlt (by omega)
        have hu : H n = .unborn := g6 0
        have y1 : (id = n) = False := by simp; omega
        have y2 : ∀ k, (id = n + k) = False := fun k => by simp; omega
        have y3 : ∀ k, (0 = n + k) = False := fun k => by simp; omega
        have y4 : (0 = n) = False := by simp; omega
        have y5 : (0 = id) = False := by simp; omega
        have hpl : pre.length ≤ 1000 := by have := congrArg List.length g1; rw [List.length_append] at this; omega
        have b1 : (pre.length + 1) * 120 ≤ 68719476736 := by omega
        have b2 : pre.length + 1 ≤ 4294967296 := by omega
        have hok : okE 10 (evV x (.slice 2 (x.rds.map Cod.enc))) = true := rfl
        have hxr := hr x (by rw [g1]; simp)
        simp +contextual only [go_sem, ↓reduceIte, Nat.reduceEqDiff, Nat.reduceAdd, Nat.reduceLeDiff, Nat.reduceLT, reduceCtorEq, k27, lt_dec hlt, hx, hw, List.getElem?_map, Option.map_some, Int.natCast_nonneg, Int.toNat_natCast, List.length_map, h53, hxr, hu, g2, g5, g6, y1, y2, y3, y4, y5, b1, b2, hok, Nat.zero_add, Nat.one_mul, Nat.mul_one, Nat.add_eq_left, Nat.left_eq_add, Nat.add_assoc, and_self]
        have hcat : (pre.map Cod.enc ++ [evV x (.slice 2 (x.rds.map Cod.enc))] : List V) = (pre ++ [x]).map Cod.enc := by rw [List.map_append]; rfl
        rw [hcat]
        have y6 : (id = 0) = False := by simp; omega
        have y7 : (n = 0) = False := by simp; omega
        have y8 : ∀ k, (n + k = 0) = (n = 0 ∧ k = 0) := fun k => by simp
        have y9 : ∀ k, (n + k = id) = False := fun k => by simp; omega
        refine ⟨by simp [apartI, apartAll, clash, List.range, List.range.loop, y1, y2, y3, y4, y5, y6, y7, y9]; decide, ?_⟩
        refine againH fun H' hH' => ?_
        refine ⟨⟨pre ++ [x], n + 7, n + 10, H'⟩, ⟨by rw [g1]; simp, ?_, ?_, ⟨by dsimp only; omega, by dsimp only; omega⟩, ?_, fun k => ?_⟩, .slots ?_⟩
        · dsimp only
          rw [hH', List.length_append]
          exact updH_at
        · dsimp only
          rw [hH']
          (repeat (refine (updH_ne (by omega)).trans ?_))
          exact g3
        · dsimp only
          rw [hH']
          exact (updH_ne (by omega)).trans updH_at
        · dsimp only
          rw [hH']
          (repeat (refine (updH_ne (by omega)).trans ?_))
          exact (congrArg H (Nat.add_assoc _ _ _)).trans (g6 _)
        · simp +contextual only [go_sem, ↓reduceIte, Nat.reduceEqDiff, Nat.reduceAdd, Nat.reduceLeDiff, Nat.reduceLT, reduceCtorEq, List.length_append, List.length_singleton]
end Go.Proofs.YteocedfakgdckaaDoor
namespace Go.Proofs.YteocedfakgdckaaDoor
set_option linter.all false
open Go.Idl
set_option maxHeartbeats 16000000
set_option maxRecDepth 100000
attribute [local go_sem] Tryd.underlying3 Tryd.underlying5 Tryd.underlying141 Tryd.underlying9 Tryd.underlying4 agInt agErr agFs Tryd.underlying22 agEv19 agObx
abbrev fldsO (o : OboxD) : List FldD := [⟨1, encI o.room⟩, ⟨2, encI o.lost⟩, ⟨3, encL (o.items.map encE)⟩]
def encO (o : OboxD) : List UInt8 := encFl (fldsO o)
structure SavOk (o : OboxD) : Prop where
  rm : 4 ≤ o.room ∧ o.room ≤ 256
  lo : o.lost = 0
  ln : (o.items.length : Int) ≤ o.room
  ev : ∀ e, e ∈ o.items → EncOk e
  sz : (encO o).length ≤ 1000000
theorem encE_ne {e : EvD} : encE e ≠ [] := by
  intro h
  have := congrArg List.length h
  rw [encE] at this
  cases hf : fldsE e with
  | nil =>
    rw [hf, List.nil_append, encFl] at this
    simp only [List.length_append, List.length_nil] at this
    have h2 : 0 < (encI 10).length := enc7_pos _
    omega
  | cons f l =>
    rw [hf, List.cons_append, encFl] at this
    simp only [List.length_append, List.length_nil] at this
    have h2 : 0 < (encI f.tag).length := enc7_pos _
    omega
theorem SavOk.fl {o : OboxD} (h : SavOk o) : OkF (fldsO o) := by
  refine ⟨⟨by dsimp only; omega, by dsimp only; omega, by dsimp only; omega, by dsimp only; omega, by dsimp only; omega, by dsimp only; omega, trivial⟩, by simp, ?_, h.sz⟩
  intro f hf
  simp only [fldsO, List.mem_cons, List.not_mem_nil, or_false] at hf
  rcases hf with rfl | rfl | rfl
  · exact encI_nn _
  · exact encI_nn _
  · intro h0
    have := congrArg List.length h0
    dsimp only at this
    rw [encL, List.length_append] at this
    have h2 : 0 < (encI ((o.items.map encE).length : Int)).length := enc7_pos _
    simp only [List.length_nil] at this
    omega
theorem SavOk.ls {o : OboxD} (h : SavOk o) : OkLs (o.items.map encE) := by
  refine ⟨by rw [List.length_map]; have := h.rm; have := h.ln; omega, fun f hf => ?_, ?_⟩
  · obtain ⟨e, _, rfl⟩ := List.mem_map.1 hf
    exact encE_ne
  · have := encFl_mem (l := fldsO o) (x := ⟨3, encL (o.items.map encE)⟩) (by simp [fldsO])
    have h2 := h.sz
    rw [encO] at h2
    dsimp only at this
    omega
open Classical in
noncomputable abbrev SSav : List V → Option V := FT fun (t : OboxD × Unit) => if SavOk t.1 then some (encO t.1, (0 : Int)) else none
structure SvInv (o0 : Idl.Obj) (l xs : List EvD) (p : OuL) : Prop where
  eq : l = p.pre ++ xs
  h0 : p.H 0 = o0
  lt : 0 < p.id ∧ p.id < p.n
  ob : p.H p.id = .live 1 ((p.pre.map encE).map Cod.enc) true
  un : ∀ k, p.H (p.n + k) = .unborn
theorem con22 {Φ : Specs} (hg : Idl.Good Tryd.prog Φ) (h46 : Φ 46 = some SVob) (h25 : Φ 25 = some SEnc) (h47 : Φ 47 = some SPutL) (h49 : Φ 49 = some SPutI) (h48 : Φ 48 = some SPutF) : Contract Tryd.prog 22 SSav := by
  refine conT hg k22 ic22 (by decide) fun C t r h => ?_
  obtain ⟨o, u⟩ := t
  dsimp only at h
  split at h
  case isFalse => cases h
  rename_i hS
  obtain rfl := Option.some.inj h
  have hfl := hS.fl
  have hls := hS.ls
  obtain ⟨⟨r1, r2⟩, r3, r4, r5, r6⟩ := hS
  have r7 : ∀ e, e ∈ o.items → evS e = 0 := fun e he => (r5 e he).ev
  have d0 : ((0 : Int) != 0) = false := rfl
  have m2 : (0 : Int) ≤ (o.items.length : Int) := by omega
  have m3 : (o.items.length : Int) ≤ 4294967296 := by omega
  have m4 : 24 * o.items.length ≤ 281474976710656 := by omega
  have hv : (4 ≤ o.room ∧ o.room ≤ 256 ∧ o.lost = 0 ∧ (o.items.length : Int) ≤ o.room ∧ ∀ e, e ∈ o.items → evS e = 0) = True := eq_true ⟨r1, r2, r3, r4, r7⟩
  simp +contextual only [go_sem, ↓reduceIte, Nat.reduceEqDiff, Nat.reduceAdd, Nat.reduceLeDiff, Nat.reduceLT, reduceCtorEq, c22, k22, h46, hv, d0, m2, m3, m4, List.length_map, Int.le_refl, Int.toNat_natCast, Int.toNat_zero, List.replicate_zero, isF_ev19, tk_ev19, decL_enc Cod.dec_enc]
  refine triH fun H1 hH1 => ?_
  obtain ⟨o0, ho0⟩ : ∃ x : Idl.Obj, x = .live 3 [.agg [.sc (.int .i64 o.room), .slice 10 (o.items.map Cod.enc), .sc (.int .i64 o.lost)]] true := ⟨_, rfl⟩
  refine TriI.loopL hg k22 o.items (fun i (p : OuL) => ⟨slotsL [(1, .ref 0 0 0), (5, .own p.id 0 p.pre.length), (22, Cod.enc o.items), (23, .sc (.int .i64 o.items.length)), (24, .sc (.int .i64 i))], p.H, p.n⟩) (SvInv o0 o.items) ⟨[], 1, 2, H1⟩ (.slots ?_) ⟨rfl, by dsimp only; rw [hH1, ho0]; rfl, ⟨by dsimp only; omega, by dsimp only; omega⟩, by dsimp only; rw [hH1]; rfl, fun k => by dsimp only; rw [hH1]; (repeat (refine (updH_ne (by omega)).trans ?_)); rfl⟩ ?_ ?_
  · simp +contextual only [go_sem, ↓reduceIte, Nat.reduceEqDiff, Nat.reduceAdd, Nat.reduceLeDiff, Nat.reduceLT, reduceCtorEq, List.length_map]
    rfl
  · rintro ⟨pre, id, n, H⟩ ⟨g1, g2, g3, g4, g5⟩
    dsimp only at g1 g2 g3 g4 g5 ⊢
    rw [List.append_nil] at g1
    subst g1
    rw [ho0] at g2
    have i1 := isF_lst (o.items.map encE)
    have i2 : List.take o.items.length ((o.items.map encE).map Cod.enc) = (o.items.map encE).map Cod.enc := List.take_of_length_le (by simp)
    have q1 : (o.items.map encE).length ≤ 256 ∧ (encL (o.items.map encE)).length ≤ 1000000 := ⟨hls.1, hls.2.2⟩
    have q2 : okN o.room := ⟨by omega, by omega⟩
    have q3 : okN o.lost := ⟨by omega, by omega⟩
    have q4 : okTags 0 (fldsO o) := hfl.1
    have q5 : (encFl (fldsO o)).length ≤ 1000000 := hfl.2.2.2
    have y1 : (0 = id) = False := by simp; omega
    have y2 : ∀ k, (n + k = id) = False := fun k => by simp; omega
    have y3 : ∀ k, (id = n + k) = False := fun k => by simp; omega
    have hun := g5
    have e1 : encO o = encFl (fldsO o) := rfl
    rw [e1]
    obtain ⟨LL, hLL⟩ : ∃ LL, LL = encL (o.items.map encE) := ⟨_, rfl⟩
    have q1a : o.items.length ≤ 256 := by omega
    have q1b : LL.length ≤ 1000000 := by rw [hLL]; exact q1.2
    unfold fldsO at *
    rw [← hLL] at q4 q5 ⊢
    have q6 := eq_true q4
    simp +contextual only [go_sem, ↓reduceIte, Nat.reduceEqDiff, Nat.reduceAdd, Nat.reduceLeDiff, Nat.reduceLT, reduceCtorEq, k22, Int.lt_irrefl, decide_false, g2, g4, hun, y1, y2, y3, i1, i2, ← hLL, q1a, q1b, d0, h47, h48, h49, q2, q3, q6, q5, Nat.zero_add, Nat.le_refl, and_self, List.length_map, decL_enc Cod.dec_enc, Nat.add_assoc]
    simp [apartI, apartAll, clash, List.range, List.range.loop]; try decide
  · rintro i ⟨pre, id, n, H⟩ x xs hd hlt hx ⟨g1, g2, g3, g4, g5⟩
    dsimp only at g1 g2 g3 g4 g5 ⊢
    have hw := wrap_nat hlt (by omega)
    have hu : H n = .unborn := g5 0
    have y1 : (id = n) = False := by simp; omega
    have y2 : ∀ k, (id = n + k) = False := fun k => by simp; omega
    have hpl : pre.length ≤ 1000 := by have := congrArg List.length g1; rw [List.length_append] at this; omega
    have b1 : (pre.length + 1) * 24 ≤ 68719476736 := by omega
    have b2 : pre.length + 1 ≤ 4294967296 := by omega
    have hok : ∀ l : List UInt8, okE 1 (.slice 1 (l.map Cod.enc)) = true := fun _ => rfl
    have hxe : EncOk x := r5 x (by rw [g1]; simp)
    simp +contextual only [go_sem, ↓reduceIte, Nat.reduceEqDiff, Nat.reduceAdd, Nat.reduceLeDiff, Nat.reduceLT, reduceCtorEq, k22, lt_dec hlt, hx, hw, List.getElem?_map, Option.map_some, Int.natCast_nonneg, Int.toNat_natCast, List.length_map, h25, hxe, d0, hu, g5, y1, y2, g4, b1, b2, hok, Nat.zero_add, Nat.one_mul, Nat.mul_one, Nat.add_eq_left, Nat.left_eq_add, Nat.add_assoc, and_self]
    have hcat : ((pre.map encE).map Cod.enc ++ [.slice 1 ((encE x).map Cod.enc)] : List V) = ((pre ++ [x]).map encE).map Cod.enc := by rw [List.map_append, List.map_append]; rfl
    rw [hcat]
    refine againH fun H' hH' => ?_
    refine ⟨⟨pre ++ [x], n + 3, n + 4, H'⟩, ⟨by rw [g1]; simp, ?_, ⟨by dsimp only; omega, by dsimp only; omega⟩, ?_, fun k => ?_⟩, .slots ?_⟩
    · dsimp only
      rw [hH']
      (repeat (refine (updH_ne (by omega)).trans ?_))
      exact g2
    · dsimp only
      rw [hH']
      exact updH_at
    · dsimp only
      rw [hH']
      (repeat (refine (updH_ne (by omega)).trans ?_))
      exact (congrArg H (Nat.add_assoc _ _ _)).trans (g5 _)
    · simp +contextual only [go_sem, ↓reduceIte, Nat.reduceEqDiff, Nat.reduceAdd, Nat.reduceLeDiff, Nat.reduceLT, reduceCtorEq, List.length_append, List.length_singleton]
def oboB (b : List UInt8) : Prop := ∃ o, SavOk o ∧ encO o = b
open Classical in
noncomputable def decO (b : List UInt8) : OboxD := if h : oboB b then Classical.choose h else ⟨0, [], 0⟩
theorem enc_items {a b : List EvD} (ha : ∀ e, e ∈ a → EncOk e) (hb : ∀ e, e ∈ b → EncOk e) (h : a.map encE = b.map encE) : a = b := by
  induction a generalizing b with
  | nil =>
    cases b with
    | nil => rfl
    | cons y b => cases h
  | cons x a ih =>
    cases b with
    | nil => cases h
    | cons y b =>
      rw [List.map_cons, List.map_cons, List.cons.injEq] at h
      rw [encE_inj (ha x (by simp)) (hb y (by simp)) h.1, ih (fun e he => ha e (List.mem_cons_of_mem _ he)) (fun e he => hb e (List.mem_cons_of_mem _ he)) h.2]
theorem encO_inj {a b : OboxD} (ha : SavOk a) (hb : SavOk b) (h : encO a = encO b) : a = b := by
  have h1 := encFl_inj (tags_nn (Int.le_refl 0) ha.fl.1) (tags_nn (Int.le_refl 0) hb.fl.1) h
  simp only [fldsO, List.cons.injEq, FldD.mk.injEq, true_and, and_true] at h1
  obtain ⟨e1, e2, e3⟩ := h1
  have a1 := ha.rm
  have b1 := hb.rm
  have a2 := ha.lo
  have b2 := hb.lo
  have f1 := encI_inj (by omega) (by omega) e1
  have f3 := enc_items ha.ev hb.ev (encL_inj e3)
  obtain ⟨ar, ai, al⟩ := a
  obtain ⟨br, bi, bl⟩ := b
  dsimp only at f1 f3 a2 b2
  subst f1 f3 a2 b2
  rfl
theorem decO_enc {o : OboxD} (h : SavOk o) : decO (encO o) = o := by
  have hb : oboB (encO o) := ⟨o, h, rfl⟩
  unfold decO
  rw [dif_pos hb]
  obtain ⟨h1, h2⟩ := Classical.choose_spec hb
  exact encO_inj h1 h h2
end Go.Proofs.YteocedfakgdckaaDoor
namespace Go.Proofs.YteocedfakgdckaaDoor
set_option linter.all false
open Go.Idl
set_option maxHeartbeats 16000000
set_option maxRecDepth 100000
attribute [local go_sem] Tryd.underlying3 Tryd.underlying5 Tryd.underlying141 Tryd.underlying9 Tryd.underlying4 agInt agErr agFs Tryd.underlying22 agEv19 agObx
open Classical in
noncomputable abbrev SLod : List V → Option V := FT fun (t : List UInt8 × Unit) => if oboB t.1 then some (decO t.1, (0 : Int)) else none
structure LdL where
  pre : List EvD
  lo : Option Nat
  n : Nat
  H : Heap
structure LdInv (room : Int) (l xs : List EvD) (p : LdL) : Prop where
  eq : l = p.pre ++ xs
  h0 : p.H 0 = .live 3 [.agg [.sc (.int .i64 0), .sc (.slice none 0 0), .sc (.int .i64 0)]] true
  h1 : p.H 1 = .live 3 [.agg [.sc (.int .i64 room), lvV p.lo p.pre.length, .sc (.int .i64 0)]] true
  lv : match p.lo with | none => p.pre = [] | some id => 1 < id ∧ id < p.n ∧ p.H id = .live 10 (p.pre.map Cod.enc) true
  n2 : 2 ≤ p.n
  un : ∀ k, p.H (p.n + k) = .unborn
theorem con23 {Φ : Specs} (hg : Idl.Good Tryd.prog Φ) (h46 : Φ 46 = some SVob) (h26 : Φ 26 = some SDec) (h50 : Φ 50 = some STakF) (h51 : Φ 51 = some STakI) (h52 : Φ 52 = some STakL) : Contract Tryd.prog 23 SLod := by
  refine conT hg k23 ic23 (by decide) fun C t r h => ?_
  obtain ⟨b, u⟩ := t
  dsimp only at h
  split at h
  case isFalse => cases h
  rename_i hb
  obtain rfl := Option.some.inj h
  obtain ⟨o, hS, rfl⟩ := hb
  rw [decO_enc hS]
  have hfl := hS.fl
  have hls := hS.ls
  obtain ⟨⟨r1, r2⟩, r3, r4, r5, r6⟩ := hS
  have r7 : ∀ e, e ∈ o.items → evS e = 0 := fun e he => (r5 e he).ev
  have d0 : ((0 : Int) != 0) = false := rfl
  have q1 : fldB (encO o) := ⟨_, hfl, rfl⟩
  have q2 : decF (encO o) = fldsO o := decF_enc hfl
  have k1 : okN o.room := ⟨by omega, by omega⟩
  have k2 : okN o.lost := ⟨by omega, by omega⟩
  have q3 : intB (encI o.room) := ⟨_, k1, rfl⟩
  have q4 : intB (encI o.lost) := ⟨_, k2, rfl⟩
  have q5 : lstB (encL (o.items.map encE)) := ⟨_, hls, rfl⟩
  have q6 := decLs_enc hls
  have q7 := decI_enc k1
  have q8 := decI_enc k2
  obtain ⟨room, items, lost⟩ := o
  dsimp only at *
  subst r3
  have z1 : ((((3 : Nat) : Int)) != 3) = false := rfl
  have z2 : ((1 : Int) != 1) = false := rfl
  have z3 : ((2 : Int) != 2) = false := rfl
  have z4 : ((3 : Int) != 3) = false := rfl
  have t0 : Int.toNat 0 = 0 := rfl
  have t1 : Int.toNat 1 = 1 := rfl
  have t2 : Int.toNat 2 = 2 := rfl
  have p0 : (0 : Int) ≤ 0 := by decide
  have p1 : (0 : Int) ≤ 1 := by decide
  have p2 : (0 : Int) ≤ 2 := by decide
  unfold fldsO at q2
  obtain ⟨B, hB⟩ : ∃ B, B = encO ⟨room, items, 0⟩ := ⟨_, rfl⟩
  rw [← hB] at q1 q2 ⊢
  obtain ⟨LL, hLL⟩ : ∃ LL, LL = encL (items.map encE) := ⟨_, rfl⟩
  rw [← hLL] at q2 q5 q6
  simp +contextual only [go_sem, ↓reduceIte, Nat.reduceEqDiff, Nat.reduceAdd, Nat.reduceLeDiff, Nat.reduceLT, reduceCtorEq, c23, k23, h50, h51, h52, q1, q2, q3, q4, q5, q6, q7, q8, d0, z1, z2, z3, z4, t0, t1, t2, p0, p1, p2, List.length_map, List.map_cons, List.map_nil, List.length_cons, List.length_nil]
  refine triH fun H1 hH1 => ?_
  refine TriI.loopL hg k23 items (fun i (p : LdL) => ⟨slotsL [(2, .ref 0 0 0), (6, .ref 1 0 0), (85, .slice 1 ((items.map encE).map Cod.enc)), (86, .sc (.int .i64 items.length)), (87, .sc (.int .i64 i))], p.H, p.n⟩) (LdInv room items) ⟨[], none, 4, H1⟩ (.slots ?_) ⟨rfl, by dsimp only; rw [hH1]; rfl, by dsimp only; rw [hH1]; rfl, rfl, by dsimp only; omega, fun k => by dsimp only; rw [hH1]; (repeat (refine (updH_ne (by omega)).trans ?_)); rfl⟩ ?_ ?_
  · simp +contextual only [go_sem, ↓reduceIte, Nat.reduceEqDiff, Nat.reduceAdd, Nat.reduceLeDiff, Nat.reduceLT, reduceCtorEq, List.length_map]
    rfl
  · rintro ⟨pre, lo, n, H⟩ ⟨g1, g2, g3, g4, g5, g6⟩
    dsimp only at g1 g2 g3 g4 g5 g6 ⊢
    rw [List.append_nil] at g1
    subst g1
    have hv : (4 ≤ room ∧ room ≤ 256 ∧ (items.length : Int) ≤ room ∧ ∀ e, e ∈ items → evS e = 0) = True := eq_true ⟨r1, r2, r4, r7⟩
    cases lo with
    | none =>
      have g4 : items = [] := g4
      subst g4
      have d4 : (4 : Int) ≤ room := r1
      have d5 : ((((0 : Nat) : Int)) ≤ room) = True := eq_true (by omega)
      have d6 : (∀ e, e ∈ ([] : List EvD) → evS e = 0) = True := eq_true (by simp)
      simp +contextual only [go_sem, ↓reduceIte, Nat.reduceEqDiff, Nat.reduceAdd, Nat.reduceLeDiff, Nat.reduceLT, reduceCtorEq, k23, Int.lt_irrefl, decide_false, g2, g3, lvV, h46, d4, r2, d5, d6, d0, true_and, and_self, List.length_nil]
    | some id =>
      obtain ⟨x1, x2, x3⟩ := g4
      have y1 : (id = 1) = False := by simp; omega
      have y2 : (id = 0) = False := by simp; omega
      have y3 : (1 = id) = False := by simp; omega
      have y7 : (0 = id) = False := by simp; omega
      have i1 := isF_ev19 items
      have i2 := tk_ev19 items
      simp +contextual only [go_sem, ↓reduceIte, Nat.reduceEqDiff, Nat.reduceAdd, Nat.reduceLeDiff, Nat.reduceLT, reduceCtorEq, k23, Int.lt_irrefl, decide_false, g2, g3, lvV, x3, y1, y2, y3, y7, i1, i2, h46, hv, d0, true_and, and_self, Nat.zero_add, Nat.le_refl, List.length_map, decL_enc Cod.dec_enc]
  · rintro i ⟨pre, lo, n, H⟩ x xs hd hlt hx ⟨g1, g2, g3, g4, g5, g6⟩
    dsimp only at g1 g2 g3 g4 g5 g6 ⊢
    have hw := wrap_nat hlt (by omega)
    have hu : H n = .unborn := g6 0
    have hpl : pre.length ≤ 1000 := by have := congrArg List.length g1; rw [List.length_append] at this; omega
    have b1 : (pre.length + 1) * 120 ≤ 68719476736 := by omega
    have b2 : pre.length + 1 ≤ 4294967296 := by omega
    have hok : okE 10 (evV x (.slice 2 (x.rds.map Cod.enc))) = true := rfl
    have hxe : EncOk x := r5 x (by rw [g1]; simp)
    have e1 : evB (encE x) := ⟨_, hxe, rfl⟩
    have e2 := decE_enc hxe
    have y4 : (1 = n) = False := by simp; omega
    have y5 : ∀ k, (1 = n + k) = False := fun k => by simp; omega
    have y6 : ∀ k, (n + k = 1) = False := fun k => by simp; omega
    have hcat : (pre.map Cod.enc ++ [evV x (.slice 2 (x.rds.map Cod.enc))] : List V) = (pre ++ [x]).map Cod.enc := by rw [List.map_append]; rfl
    cases lo with
    | none =>
      have hp0 : pre = [] := g4
      subst hp0
      simp +contextual only [go_sem, ↓reduceIte, Nat.reduceEqDiff, Nat.reduceAdd, Nat.reduceLeDiff, Nat.reduceLT, reduceCtorEq, k23, lt_dec hlt, hx, hw, List.getElem?_map, Option.map_some, Int.natCast_nonneg, Int.toNat_natCast, List.length_map, h26, e1, e2, d0, hu, g6, y4, y5, y6, g3, lvV, b1, b2, hok, Nat.zero_add, Nat.one_mul, Nat.mul_one, Nat.add_eq_left, Nat.left_eq_add, Nat.add_assoc, and_self]
      refine againH fun H' hH' => ?_
      refine ⟨⟨[] ++ [x], some (n + 3), n + 5, H'⟩, ⟨by rw [g1]; simp, ?_, ?_, ⟨by omega, by dsimp only; omega, ?_⟩, by dsimp only; omega, fun k => ?_⟩, .slots ?_⟩
      · dsimp only
        rw [hH']
        (repeat (refine (updH_ne (by omega)).trans ?_))
        exact g2
      · dsimp only
        rw [hH', List.length_append]
        exact updH_at
      · dsimp only
        rw [hH']
        exact (updH_ne (by omega)).trans updH_at
      · dsimp only
        rw [hH']
        (repeat (refine (updH_ne (by omega)).trans ?_))
        exact (congrArg H (Nat.add_assoc _ _ _)).trans (g6 _)
      · simp +contextual only [go_sem, ↓reduceIte, Nat.reduceEqDiff, Nat.reduceAdd, Nat.reduceLeDiff, Nat.reduceLT, reduceCtorEq]
    | some id =>
      obtain ⟨x1, x2, x3⟩ := g4
      have y1 : (id = n) = False := by simp; omega
      have y2 : ∀ k, (id = n + k) = False := fun k => by simp; omega
      have y3 : (1 = id) = False := by simp; omega
      simp +contextual only [go_sem, ↓reduceIte, Nat.reduceEqDiff, Nat.reduceAdd, Nat.reduceLeDiff, Nat.reduceLT, reduceCtorEq, k23, lt_dec hlt, hx, hw, List.getElem?_map, Option.map_some, Int.natCast_nonneg, Int.toNat_natCast, List.length_map, h26, e1, e2, d0, hu, g6, y4, y5, y6, g3, lvV, b1, b2, hok, Nat.zero_add, Nat.one_mul, Nat.mul_one, Nat.add_eq_left, Nat.left_eq_add, Nat.add_assoc, and_self, x3, y1, y2, y3]
      rw [hcat]
      refine againH fun H' hH' => ?_
      refine ⟨⟨pre ++ [x], some (n + 3), n + 5, H'⟩, ⟨by rw [g1]; simp, ?_, ?_, ⟨by omega, by dsimp only; omega, ?_⟩, by dsimp only; omega, fun k => ?_⟩, .slots ?_⟩
      · dsimp only
        rw [hH']
        (repeat (refine (updH_ne (by omega)).trans ?_))
        exact g2
      · dsimp only
        rw [hH', List.length_append]
        exact updH_at
      · dsimp only
        rw [hH']
        exact (updH_ne (by omega)).trans updH_at
      · dsimp only
        rw [hH']
        (repeat (refine (updH_ne (by omega)).trans ?_))
        exact (congrArg H (Nat.add_assoc _ _ _)).trans (g6 _)
      · simp +contextual only [go_sem, ↓reduceIte, Nat.reduceEqDiff, Nat.reduceAdd, Nat.reduceLeDiff, Nat.reduceLT, reduceCtorEq]
end Go.Proofs.YteocedfakgdckaaDoor
