/- Decode: readings, fields. -/
import Derived.Test.YteocedfakgdckaaDoorEnc19p
namespace Go.Proofs.YteocedfakgdckaaDoor
set_option linter.all false
open Go.Idl
set_option maxHeartbeats 16000000
set_option maxRecDepth 100000
attribute [local go_sem] Tryd.underlying3 Tryd.underlying5 Tryd.underlying141 Tryd.underlying9 Tryd.underlying4 agInt agErr agFs Tryd.underlying22 agEv19
theorem nums_at : ∀ (l : List Rdg) (k : Nat) (r : Rdg), l[k]? = some r → (numsE l)[2 * k]? = some (encI r.time) ∧ (numsE l)[2 * k + 1]? = some (encI r.reg)
  | [], k, r, h => by simp at h
  | x :: l, 0, r, h => by
    simp at h
    subst h
    exact ⟨rfl, rfl⟩
  | x :: l, k + 1, r, h => by
    have := nums_at l k r (by simpa using h)
    exact this
open Classical in
noncomputable abbrev SRds : List V → Option V := FT fun (t : List UInt8 × Unit) => if rdsB t.1 then some (decR t.1, true) else none
theorem isF_rds (l : List Rdg) : (l.map Cod.enc).all V.isF = true := by
  simp only [List.all_map, List.all_eq_true]
  intro x _
  rfl
theorem tk_rds (l : List Rdg) : List.take l.length (l.map Cod.enc) = l.map Cod.enc := List.take_of_length_le (by simp)
theorem agH {C : Ctx} {α : Type} {st : α → SF} {inv : α → Prop} {ms : α → Nat} {a : α} {τ : Nat → V} {H : Heap} {n : Nat} (h : ∀ H', H' = H → again C st inv ms a ⟨τ, H', n⟩) : again C st inv ms a ⟨τ, H, n⟩ := h H rfl
structure TrL where
  pre : List Rdg
  id : Nat
  n : Nat
  H : Heap
theorem con77 {Φ : Specs} (hg : Idl.Good Tryd.prog Φ) (h52 : Φ 52 = some STakL) (h51 : Φ 51 = some STakI) : Contract Tryd.prog 77 SRds := by
  refine conT hg k77 ic77 (by decide) fun C t r h => ?_
  obtain ⟨b, u⟩ := t
  dsimp only at h
  split at h
  case isFalse => cases h
  rename_i hb
  obtain rfl := Option.some.inj h
  obtain ⟨rs, hr, rfl⟩ := hb
  rw [decR_enc hr]
  have hL := (nums_ok hr).1
  have q1 : lstB (encL (numsE rs)) := ⟨_, hL, rfl⟩
  have q2 := decLs_enc hL
  have hn := numsE_len rs
  obtain ⟨hr0, hr16, hrk⟩ := hr
  have d0 : ((0 : Int) != 0) = false := rfl
  have d1 : (((numsE rs).length : Int).tmod 2 != 0) = false := by rw [hn]; simp
  have d2 : IntKind.i64.wrap (((numsE rs).length : Int).tdiv 2) = (rs.length : Int) := by
    rw [hn, IntKind.wrap_i64, show ((2 * rs.length : Nat) : Int).tdiv 2 = (rs.length : Int) by rw [Int.tdiv_eq_ediv_of_nonneg (by omega)]; omega]; omega
  have m2 : (0 : Int) ≤ (rs.length : Int) := by omega
  have m3 : (rs.length : Int) ≤ 4294967296 := by omega
  have m4 : 16 * rs.length ≤ 281474976710656 := by omega
  have z2 : ((2 : Int) = 0) = False := by simp
  simp +contextual only [go_sem, ↓reduceIte, Nat.reduceEqDiff, Nat.reduceAdd, Nat.reduceLeDiff, Nat.reduceLT, reduceCtorEq, c77, k77, z2, not_false_eq_true, ne_eq, h52, q1, q2, d0, d1, d2, m2, m3, m4, List.length_map, Int.le_refl, Int.toNat_natCast, Int.toNat_zero, List.replicate_zero]
  refine triH fun H1 hH1 => ?_
  refine TriI.loopA hg k77 (fun p : TrL => ⟨slotsL [(4, .slice 1 ((numsE rs).map Cod.enc)), (6, .own p.id 0 p.pre.length), (7, .sc (.int .i64 ((2 * p.pre.length : Nat) : Int)))], p.H, p.n⟩)
    (fun p => (∃ xs, rs = p.pre ++ xs) ∧ p.id < p.n ∧ p.H p.id = .live 2 (p.pre.map Cod.enc) true ∧ ∀ k, p.H (p.n + k) = .unborn) (fun p => rs.length - p.pre.length) ⟨[], 0, 1, H1⟩ (.slots ?_) ⟨⟨rs, rfl⟩, by dsimp only; omega, by rw [hH1]; rfl, fun k => by dsimp only; rw [hH1, updH_ne (by omega)]⟩ ?_
  · simp +contextual only [go_sem, ↓reduceIte, Nat.reduceEqDiff, Nat.reduceAdd, Nat.reduceLeDiff, Nat.reduceLT, reduceCtorEq]
    rfl
  · rintro ⟨pre, id, n, H⟩ ⟨⟨xs, g1⟩, g2, g3, g4⟩
    dsimp only at g1 g2 g3 g4 ⊢
    have hpl : pre.length + xs.length = rs.length := by have := congrArg List.length g1; rw [List.length_append] at this; omega
    cases xs with
    | nil =>
      rw [List.append_nil] at g1
      subst g1
      have e1 : decide (((2 * rs.length : Nat) : Int) < ((numsE rs).length : Int)) = false := by rw [hn]; simp
      simp +contextual only [go_sem, ↓reduceIte, Nat.reduceEqDiff, Nat.reduceAdd, Nat.reduceLeDiff, Nat.reduceLT, reduceCtorEq, k77, List.length_map, e1, g3, isF_rds, tk_rds, Nat.zero_add, Nat.le_refl, and_self, decL_enc Cod.dec_enc]
    | cons r xs =>
      rw [List.length_cons] at hpl
      have e1 : decide (((2 * pre.length : Nat) : Int) < ((numsE rs).length : Int)) = true := by rw [hn, decide_eq_true_eq]; omega
      have hat := nums_at rs pre.length r (by rw [g1]; simp)
      obtain ⟨a1, a2⟩ := hat
      obtain ⟨k1, k2⟩ := hrk r (by rw [g1]; simp)
      have i1 : intB (encI r.time) := ⟨_, k1, rfl⟩
      have i2 : intB (encI r.reg) := ⟨_, k2, rfl⟩
      have i3 := decI_enc k1
      have i4 := decI_enc k2
      have w1 : IntKind.i64.wrap (((2 * pre.length : Nat) : Int) + 1) = ((2 * pre.length + 1 : Nat) : Int) := by rw [IntKind.wrap_i64]; omega
      have w2 : IntKind.i64.wrap (((2 * pre.length : Nat) : Int) + 2) = ((2 * (pre.length + 1) : Nat) : Int) := by rw [IntKind.wrap_i64]; omega
      have hun := g4
      have hu : H n = .unborn := g4 0
      have y1 : (id = n) = False := by simp; omega
      have y2 : ∀ k, (id = n + k) = False := fun k => by simp; omega
      have b1 : (pre.length + 1) * 16 ≤ 68719476736 := by omega
      have b2 : pre.length + 1 ≤ 4294967296 := by omega
      have hok : okE 2 (.agg [.sc (.int .i64 r.time), .sc (.int .i64 r.reg)]) = true := rfl
      simp +contextual only [go_sem, ↓reduceIte, Nat.reduceEqDiff, Nat.reduceAdd, Nat.reduceLeDiff, Nat.reduceLT, reduceCtorEq, k77, List.length_map, e1, a1, a2, h51, i1, i2, i3, i4, d0, w1, w2, hun, hu, y1, y2, g3, b1, b2, hok, List.getElem?_map, Option.map_some, Int.natCast_nonneg, Int.toNat_natCast, Nat.zero_add, Nat.one_mul, Nat.add_eq_left, Nat.left_eq_add, Nat.add_assoc, and_self]
      have hcat : (pre.map Cod.enc ++ [.agg [.sc (.int .i64 r.time), .sc (.int .i64 r.reg)]] : List V) = (pre ++ [r]).map Cod.enc := by rw [List.map_append]; rfl
      rw [hcat]
      refine agH fun H' hH' => ?_
      refine ⟨⟨pre ++ [r], n + 1, n + 2, H'⟩, by dsimp only; rw [List.length_append, List.length_singleton]; omega, ⟨⟨xs, by rw [g1]; simp⟩, by dsimp only; omega, ?_, fun k => ?_⟩, .slots ?_⟩
      · dsimp only
        rw [hH']
        exact updH_at
      · dsimp only
        rw [hH']
        (repeat (refine (updH_ne (by omega)).trans ?_))
        exact (congrArg H (Nat.add_assoc _ _ _)).trans (hun _)
      · simp +contextual only [go_sem, ↓reduceIte, Nat.reduceEqDiff, Nat.reduceAdd, Nat.reduceLeDiff, Nat.reduceLT, reduceCtorEq, List.length_append, List.length_singleton]
def OkFl (x : FldD) : Prop := ((x.tag = 1 ∨ x.tag = 2 ∨ x.tag = 7) ∧ x.data ≠ []) ∨ (x.tag = 10 ∧ rdsB x.data) ∨ ((x.tag = 3 ∨ x.tag = 4 ∨ x.tag = 5 ∨ x.tag = 6 ∨ x.tag = 9) ∧ intB x.data ∧ decI x.data ≠ 0) ∨ (x.tag = 8 ∧ intB x.data ∧ decI x.data = 1)
theorem decR_ne {b : List UInt8} (h : rdsB b) : decR b ≠ [] := by
  obtain ⟨l, hl, rfl⟩ := h
  rw [decR_enc hl]
  exact hl.1
theorem strB_ne {l : List UInt8} (h : l ≠ []) : strB l ≠ ⟨#[]⟩ := by
  intro h0
  apply h
  have := congrArg (fun s : ByteArray => s.data.toList) h0
  simpa [strB] using this
abbrev evV (e : EvD) (rv : V) : V := .agg [.sc (.string e.station), .sc (.string e.txn), .sc (.int .i64 e.conn), .sc (.int .i64 e.seq), .sc (.int .i64 e.kind), .sc (.int .i64 e.time), .sc (.string e.token), .sc (.bool e.offline), .sc (.int .i64 e.reason), rv]
noncomputable def rvN (rv : V) (x : FldD) : V := if x.tag = 10 then .slice 2 ((decR x.data).map Cod.enc) else rv
theorem ct56 {Φ : Specs} (hg : Idl.Good Tryd.prog Φ) (h77 : Φ 77 = some SRds) (h51 : Φ 51 = some STakI) {C : Ctx} {H0 : Heap} {n id : Nat} {ev : EvD} {rv : V} {x : FldD} {τ : Nat → V} {K : V → SF → Prop}
    (hid : id < n) (hun : ∀ k, H0 (n + k) = .unborn) (hH : H0 id = .live 10 [evV ev rv] true) (hx : OkFl x)
    (hk : ∀ τ' n' H', n ≤ n' → H' id = .live 10 [evV (setF ev x) (rvN rv x)] true → (∀ j, j < n → j ≠ id → H' j = H0 j) → (∀ k, H' (n' + k) = .unborn) → K (.sc (.bool true)) ⟨τ', H', n'⟩) :
    CallT Tryd.prog C 56 [.ref id 0 0, Cod.enc x] ⟨τ, H0, n⟩ K := by
  refine CallT.of_walk hg k56 ic56 (by simp) fun C' hlow => ?_
  have hu : H0 n = .unborn := hun 0
  have y1 : (id = n) = False := by simp; omega
  have y2 : (n = id) = False := by simp; omega
  have d0 : ((0 : Int) != 0) = false := rfl
  have fin : ∀ (τ' : Nat → V) (n' : Nat) (o1 o2 : Idl.Obj) (ev' : EvD) (rv' : V), setF ev x = ev' → rvN rv x = rv' → o2 = .live 10 [evV ev' rv'] true → n < n' → K (.sc (.bool true)) ⟨τ', updH (updH H0 n o1) id o2, n'⟩ := fun τ' n' o1 o2 ev' rv' h1 h1' h2 h3 => by
    refine hk _ _ _ (by omega) (by rw [h1, h1', h2]; exact updH_at) (fun j hj hne => by rw [updH_ne hne, updH_ne (by omega)]) fun k => ?_
    rw [updH_ne (by omega), updH_ne (by omega)]
    have := hun (n' - n + k)
    rwa [show n + (n' - n + k) = n' + k by omega] at this
  rcases hx with ⟨ht, hd⟩ | ⟨ht, hd⟩ | ⟨ht, hd, hd0⟩ | ⟨ht, hd, hd1⟩
  · have hs : decide (strB x.data = ⟨#[]⟩) = false := decide_eq_false (strB_ne hd)
    rcases ht with ht | ht | ht
    · have q1 : (x.tag == 1) = true := by rw [ht]; rfl
      have q2 : (x.tag == 2) = false := by rw [ht]; rfl
      have q3 : (x.tag == 3) = false := by rw [ht]; rfl
      have q4 : (x.tag == 4) = false := by rw [ht]; rfl
      have q5 : (x.tag == 5) = false := by rw [ht]; rfl
      have q6 : (x.tag == 6) = false := by rw [ht]; rfl
      have q7 : (x.tag == 7) = false := by rw [ht]; rfl
      have q8 : (x.tag == 8) = false := by rw [ht]; rfl
      have q9 : (x.tag == 9) = false := by rw [ht]; rfl
      have q10 : (x.tag == 10) = false := by rw [ht]; rfl
      have hs' : setF ev x = { ev with station := strB x.data } := by simp [setF, ht]
      simp +contextual only [go_sem, ↓reduceIte, Nat.reduceEqDiff, Nat.reduceAdd, Nat.reduceLeDiff, Nat.reduceLT, reduceCtorEq, c56, k56, evV, hu, hH, y1, y2, q1, q2, q3, q4, q5, q6, q7, q8, q9, q10]
      refine stepI_bytesF Tryd.underlying22 Tryd.underlying5 Tryd.underlying9 rfl (conv_noneF rfl) ?_
      simp +contextual only [go_sem, ↓reduceIte, Nat.reduceEqDiff, Nat.reduceAdd, Nat.reduceLeDiff, Nat.reduceLT, reduceCtorEq, k56, evV, hu, hH, y1, y2, hs]
      exact fin _ _ _ _ _ _ hs' (by simp [rvN, ht]) rfl (by omega)
    · have q1 : (x.tag == 1) = false := by rw [ht]; rfl
      have q2 : (x.tag == 2) = true := by rw [ht]; rfl
      have q3 : (x.tag == 3) = false := by rw [ht]; rfl
      have q4 : (x.tag == 4) = false := by rw [ht]; rfl
      have q5 : (x.tag == 5) = false := by rw [ht]; rfl
      have q6 : (x.tag == 6) = false := by rw [ht]; rfl
      have q7 : (x.tag == 7) = false := by rw [ht]; rfl
      have q8 : (x.tag == 8) = false := by rw [ht]; rfl
      have q9 : (x.tag == 9) = false := by rw [ht]; rfl
      have q10 : (x.tag == 10) = false := by rw [ht]; rfl
      have hs' : setF ev x = { ev with txn := strB x.data } := by simp [setF, ht]
      simp +contextual only [go_sem, ↓reduceIte, Nat.reduceEqDiff, Nat.reduceAdd, Nat.reduceLeDiff, Nat.reduceLT, reduceCtorEq, c56, k56, evV, hu, hH, y1, y2, q1, q2, q3, q4, q5, q6, q7, q8, q9, q10]
      refine stepI_bytesF Tryd.underlying22 Tryd.underlying5 Tryd.underlying9 rfl (conv_noneF rfl) ?_
      simp +contextual only [go_sem, ↓reduceIte, Nat.reduceEqDiff, Nat.reduceAdd, Nat.reduceLeDiff, Nat.reduceLT, reduceCtorEq, k56, evV, hu, hH, y1, y2, hs]
      exact fin _ _ _ _ _ _ hs' (by simp [rvN, ht]) rfl (by omega)
    · have q1 : (x.tag == 1) = false := by rw [ht]; rfl
      have q2 : (x.tag == 2) = false := by rw [ht]; rfl
      have q3 : (x.tag == 3) = false := by rw [ht]; rfl
      have q4 : (x.tag == 4) = false := by rw [ht]; rfl
      have q5 : (x.tag == 5) = false := by rw [ht]; rfl
      have q6 : (x.tag == 6) = false := by rw [ht]; rfl
      have q7 : (x.tag == 7) = true := by rw [ht]; rfl
      have q8 : (x.tag == 8) = false := by rw [ht]; rfl
      have q9 : (x.tag == 9) = false := by rw [ht]; rfl
      have q10 : (x.tag == 10) = false := by rw [ht]; rfl
      have hs' : setF ev x = { ev with token := strB x.data } := by simp [setF, ht]
      simp +contextual only [go_sem, ↓reduceIte, Nat.reduceEqDiff, Nat.reduceAdd, Nat.reduceLeDiff, Nat.reduceLT, reduceCtorEq, c56, k56, evV, hu, hH, y1, y2, q1, q2, q3, q4, q5, q6, q7, q8, q9, q10]
      refine stepI_bytesF Tryd.underlying22 Tryd.underlying5 Tryd.underlying9 rfl (conv_noneF rfl) ?_
      simp +contextual only [go_sem, ↓reduceIte, Nat.reduceEqDiff, Nat.reduceAdd, Nat.reduceLeDiff, Nat.reduceLT, reduceCtorEq, k56, evV, hu, hH, y1, y2, hs]
      exact fin _ _ _ _ _ _ hs' (by simp [rvN, ht]) rfl (by omega)
  · have q1 : (x.tag == 1) = false := by rw [ht]; rfl
    have q2 : (x.tag == 2) = false := by rw [ht]; rfl
    have q3 : (x.tag == 3) = false := by rw [ht]; rfl
    have q4 : (x.tag == 4) = false := by rw [ht]; rfl
    have q5 : (x.tag == 5) = false := by rw [ht]; rfl
    have q6 : (x.tag == 6) = false := by rw [ht]; rfl
    have q7 : (x.tag == 7) = false := by rw [ht]; rfl
    have q8 : (x.tag == 8) = false := by rw [ht]; rfl
    have q9 : (x.tag == 9) = false := by rw [ht]; rfl
    have q10 : (x.tag == 10) = true := by rw [ht]; rfl
    have hs' : setF ev x = { ev with rds := decR x.data } := by simp [setF, ht]
    have hlen : decide (((decR x.data).length : Int) > 0) = true := by
      have := List.length_pos_iff.2 (decR_ne hd)
      rw [decide_eq_true_eq]; omega
    simp +contextual only [go_sem, ↓reduceIte, Nat.reduceEqDiff, Nat.reduceAdd, Nat.reduceLeDiff, Nat.reduceLT, reduceCtorEq, c56, k56, evV, hu, hH, y1, y2, h77, hd, hlen, List.length_map, q1, q2, q3, q4, q5, q6, q7, q8, q9, q10]
    exact fin _ _ _ _ _ _ hs' (by simp [rvN, ht]) rfl (by omega)
  · have hz : (decI x.data == 0) = false := beq_false_of_ne hd0
    rcases ht with ht | ht | ht | ht | ht
    · have q1 : (x.tag == 1) = false := by rw [ht]; rfl
      have q2 : (x.tag == 2) = false := by rw [ht]; rfl
      have q3 : (x.tag == 3) = true := by rw [ht]; rfl
      have q4 : (x.tag == 4) = false := by rw [ht]; rfl
      have q5 : (x.tag == 5) = false := by rw [ht]; rfl
      have q6 : (x.tag == 6) = false := by rw [ht]; rfl
      have q7 : (x.tag == 7) = false := by rw [ht]; rfl
      have q8 : (x.tag == 8) = false := by rw [ht]; rfl
      have q9 : (x.tag == 9) = false := by rw [ht]; rfl
      have q10 : (x.tag == 10) = false := by rw [ht]; rfl
      have hs' : setF ev x = { ev with conn := decI x.data } := by simp [setF, ht]
      simp +contextual only [go_sem, ↓reduceIte, Nat.reduceEqDiff, Nat.reduceAdd, Nat.reduceLeDiff, Nat.reduceLT, reduceCtorEq, c56, k56, evV, hu, hH, y1, y2, h51, hd, hz, d0, q1, q2, q3, q4, q5, q6, q7, q8, q9, q10]
      exact fin _ _ _ _ _ _ hs' (by simp [rvN, ht]) rfl (by omega)
    · have q1 : (x.tag == 1) = false := by rw [ht]; rfl
      have q2 : (x.tag == 2) = false := by rw [ht]; rfl
      have q3 : (x.tag == 3) = false := by rw [ht]; rfl
      have q4 : (x.tag == 4) = true := by rw [ht]; rfl
      have q5 : (x.tag == 5) = false := by rw [ht]; rfl
      have q6 : (x.tag == 6) = false := by rw [ht]; rfl
      have q7 : (x.tag == 7) = false := by rw [ht]; rfl
      have q8 : (x.tag == 8) = false := by rw [ht]; rfl
      have q9 : (x.tag == 9) = false := by rw [ht]; rfl
      have q10 : (x.tag == 10) = false := by rw [ht]; rfl
      have hs' : setF ev x = { ev with seq := decI x.data } := by simp [setF, ht]
      simp +contextual only [go_sem, ↓reduceIte, Nat.reduceEqDiff, Nat.reduceAdd, Nat.reduceLeDiff, Nat.reduceLT, reduceCtorEq, c56, k56, evV, hu, hH, y1, y2, h51, hd, hz, d0, q1, q2, q3, q4, q5, q6, q7, q8, q9, q10]
      exact fin _ _ _ _ _ _ hs' (by simp [rvN, ht]) rfl (by omega)
    · have q1 : (x.tag == 1) = false := by rw [ht]; rfl
      have q2 : (x.tag == 2) = false := by rw [ht]; rfl
      have q3 : (x.tag == 3) = false := by rw [ht]; rfl
      have q4 : (x.tag == 4) = false := by rw [ht]; rfl
      have q5 : (x.tag == 5) = true := by rw [ht]; rfl
      have q6 : (x.tag == 6) = false := by rw [ht]; rfl
      have q7 : (x.tag == 7) = false := by rw [ht]; rfl
      have q8 : (x.tag == 8) = false := by rw [ht]; rfl
      have q9 : (x.tag == 9) = false := by rw [ht]; rfl
      have q10 : (x.tag == 10) = false := by rw [ht]; rfl
      have hs' : setF ev x = { ev with kind := decI x.data } := by simp [setF, ht]
      simp +contextual only [go_sem, ↓reduceIte, Nat.reduceEqDiff, Nat.reduceAdd, Nat.reduceLeDiff, Nat.reduceLT, reduceCtorEq, c56, k56, evV, hu, hH, y1, y2, h51, hd, hz, d0, q1, q2, q3, q4, q5, q6, q7, q8, q9, q10]
      exact fin _ _ _ _ _ _ hs' (by simp [rvN, ht]) rfl (by omega)
    · have q1 : (x.tag == 1) = false := by rw [ht]; rfl
      have q2 : (x.tag == 2) = false := by rw [ht]; rfl
      have q3 : (x.tag == 3) = false := by rw [ht]; rfl
      have q4 : (x.tag == 4) = false := by rw [ht]; rfl
      have q5 : (x.tag == 5) = false := by rw [ht]; rfl
      have q6 : (x.tag == 6) = true := by rw [ht]; rfl
      have q7 : (x.tag == 7) = false := by rw [ht]; rfl
      have q8 : (x.tag == 8) = false := by rw [ht]; rfl
      have q9 : (x.tag == 9) = false := by rw [ht]; rfl
      have q10 : (x.tag == 10) = false := by rw [ht]; rfl
      have hs' : setF ev x = { ev with time := decI x.data } := by simp [setF, ht]
      simp +contextual only [go_sem, ↓reduceIte, Nat.reduceEqDiff, Nat.reduceAdd, Nat.reduceLeDiff, Nat.reduceLT, reduceCtorEq, c56, k56, evV, hu, hH, y1, y2, h51, hd, hz, d0, q1, q2, q3, q4, q5, q6, q7, q8, q9, q10]
      exact fin _ _ _ _ _ _ hs' (by simp [rvN, ht]) rfl (by omega)
    · have q1 : (x.tag == 1) = false := by rw [ht]; rfl
      have q2 : (x.tag == 2) = false := by rw [ht]; rfl
      have q3 : (x.tag == 3) = false := by rw [ht]; rfl
      have q4 : (x.tag == 4) = false := by rw [ht]; rfl
      have q5 : (x.tag == 5) = false := by rw [ht]; rfl
      have q6 : (x.tag == 6) = false := by rw [ht]; rfl
      have q7 : (x.tag == 7) = false := by rw [ht]; rfl
      have q8 : (x.tag == 8) = false := by rw [ht]; rfl
      have q9 : (x.tag == 9) = true := by rw [ht]; rfl
      have q10 : (x.tag == 10) = false := by rw [ht]; rfl
      have hs' : setF ev x = { ev with reason := decI x.data } := by simp [setF, ht]
      simp +contextual only [go_sem, ↓reduceIte, Nat.reduceEqDiff, Nat.reduceAdd, Nat.reduceLeDiff, Nat.reduceLT, reduceCtorEq, c56, k56, evV, hu, hH, y1, y2, h51, hd, hz, d0, q1, q2, q3, q4, q5, q6, q7, q8, q9, q10]
      exact fin _ _ _ _ _ _ hs' (by simp [rvN, ht]) rfl (by omega)
  · have q1 : (x.tag == 1) = false := by rw [ht]; rfl
    have q2 : (x.tag == 2) = false := by rw [ht]; rfl
    have q3 : (x.tag == 3) = false := by rw [ht]; rfl
    have q4 : (x.tag == 4) = false := by rw [ht]; rfl
    have q5 : (x.tag == 5) = false := by rw [ht]; rfl
    have q6 : (x.tag == 6) = false := by rw [ht]; rfl
    have q7 : (x.tag == 7) = false := by rw [ht]; rfl
    have q8 : (x.tag == 8) = true := by rw [ht]; rfl
    have q9 : (x.tag == 9) = false := by rw [ht]; rfl
    have q10 : (x.tag == 10) = false := by rw [ht]; rfl
    have hs' : setF ev x = { ev with offline := true } := by simp [setF, ht]
    have hz : (decI x.data == 0) = false := by rw [hd1]; rfl
    have hz1 : (decI x.data == 1) = true := by rw [hd1]; rfl
    simp +contextual only [go_sem, ↓reduceIte, Nat.reduceEqDiff, Nat.reduceAdd, Nat.reduceLeDiff, Nat.reduceLT, reduceCtorEq, c56, k56, evV, hu, hH, y1, y2, h51, hd, hz, hz1, d0, q1, q2, q3, q4, q5, q6, q7, q8, q9, q10]
    exact fin _ _ _ _ _ _ hs' (by simp [rvN, ht]) rfl (by omega)
end Go.Proofs.YteocedfakgdckaaDoor
namespace Go.Proofs.YteocedfakgdckaaDoor
set_option linter.all false
open Go.Idl
set_option maxHeartbeats 16000000
set_option maxRecDepth 100000
attribute [local go_sem] Tryd.underlying3 Tryd.underlying5 Tryd.underlying141 Tryd.underlying9 Tryd.underlying4 agInt agErr agFs Tryd.underlying22 agEv19
def evB (b : List UInt8) : Prop := ∃ e, EncOk e ∧ encE e = b
open Classical in
noncomputable def decE (b : List UInt8) : EvD := if h : evB b then Classical.choose h else z0E
theorem decE_enc {e : EvD} (h : EncOk e) : decE (encE e) = e := by
  have hb : evB (encE e) := ⟨e, h, rfl⟩
  unfold decE
  rw [dif_pos hb]
  obtain ⟨h1, h2⟩ := Classical.choose_spec hb
  exact encE_inj h1 h h2
open Classical in
noncomputable abbrev SDec : List V → Option V := FT fun (t : List UInt8 × Unit) => if evB t.1 then some (decE t.1, (0 : Int)) else none
theorem tx_ok {t : Int} {s : ByteArray} (ht : t = 1 ∨ t = 2 ∨ t = 7) : ∀ f, f ∈ txF t s → OkFl f := fun f hf => by
  rcases txF_cases t s with ⟨_, h1⟩ | ⟨h0, h1⟩
  · rw [h1] at hf; cases hf
  · rw [h1] at hf
    obtain rfl := List.mem_singleton.1 hf
    exact .inl ⟨ht, ba_ne h0⟩
theorem nu_ok {t n : Int} (hn : okN n) (ht : t = 3 ∨ t = 4 ∨ t = 5 ∨ t = 6 ∨ t = 9) : ∀ f, f ∈ nuF t n → OkFl f := fun f hf => by
  rcases nuF_cases t n with ⟨_, h1⟩ | ⟨h0, h1⟩
  · rw [h1] at hf; cases hf
  · rw [h1] at hf
    obtain rfl := List.mem_singleton.1 hf
    exact .inr (.inr (.inl ⟨ht, ⟨n, hn, rfl⟩, by rw [decI_enc hn]; exact h0⟩))
theorem off_ok (b : Bool) : ∀ f, f ∈ offF b → OkFl f := fun f hf => by
  cases b with
  | false => cases hf
  | true =>
    have hn : okN 1 := ⟨by decide, by decide⟩
    obtain rfl := List.mem_singleton.1 (show f ∈ [(⟨8, encI 1⟩ : FldD)] from hf)
    exact .inr (.inr (.inr ⟨rfl, ⟨1, hn, rfl⟩, decI_enc hn⟩))
theorem flds_okl {e : EvD} (h : EncOk e) : ∀ f, f ∈ fldsA e → OkFl f := by
  intro f hf
  simp only [fldsA, fldsE, List.mem_append] at hf
  rcases hf with ((((((((hf | hf) | hf) | hf) | hf) | hf) | hf) | hf) | hf) | hf
  · exact tx_ok (.inl rfl) f hf
  · exact tx_ok (.inr (.inl rfl)) f hf
  · exact nu_ok h.co (.inl rfl) f hf
  · exact nu_ok h.sq (.inr (.inl rfl)) f hf
  · exact nu_ok h.ki (.inr (.inr (.inl rfl))) f hf
  · exact nu_ok h.ti (.inr (.inr (.inr (.inl rfl)))) f hf
  · exact tx_ok (.inr (.inr rfl)) f hf
  · exact off_ok _ f hf
  · exact nu_ok h.re (.inr (.inr (.inr (.inr rfl)))) f hf
  · obtain rfl := List.mem_singleton.1 hf
    exact .inr (.inl ⟨rfl, ⟨e.rds, h.rs, rfl⟩⟩)
theorem rv_fold {e : EvD} (h : EncOk e) (rv : V) : (fldsA e).foldl rvN rv = .slice 2 (e.rds.map Cod.enc) := by
  rw [fldsA, List.foldl_append]
  simp [rvN, decR_enc h.rs]
structure DcL where
  pre : List FldD
  n : Nat
  H : Heap
structure DcInv (l xs : List FldD) (p : DcL) : Prop where
  eq : l = p.pre ++ xs
  h0 : p.H 0 = .live 10 [evV z0E (.sc (.slice none 0 0))] true
  h1 : p.H 1 = .live 10 [evV (p.pre.foldl setF z0E) (p.pre.foldl rvN (.sc (.slice none 0 0)))] true
  n2 : 2 ≤ p.n
  un : ∀ k, p.H (p.n + k) = .unborn
theorem con26 {Φ : Specs} (hg : Idl.Good Tryd.prog Φ) (h35 : Φ 35 = some SEv) (h50 : Φ 50 = some STakF) (h56 : Φ 56 = none) (h77 : Φ 77 = some SRds) (h51 : Φ 51 = some STakI) : Contract Tryd.prog 26 SDec := by
  refine conT hg k26 ic26 (by decide) fun C t r h => ?_
  obtain ⟨b, u⟩ := t
  dsimp only at h
  split at h
  case isFalse => cases h
  rename_i hb
  obtain rfl := Option.some.inj h
  obtain ⟨e, hE, rfl⟩ := hb
  rw [decE_enc hE]
  have hev := hE.ev
  have hok := flds_ok hE
  have q1 : fldB (encE e) := ⟨_, hok, rfl⟩
  have q2 : decF (encE e) = fldsA e := decF_enc hok
  have d0 : ((0 : Int) != 0) = false := rfl
  have hall := flds_okl hE
  have hfold := fold_e hE
  have hrv := rv_fold hE (.sc (.slice none 0 0))
  have hl256 : (fldsA e).length ≤ 256 := hok.2.1
  generalize fldsA e = l at *
  simp +contextual only [go_sem, ↓reduceIte, Nat.reduceEqDiff, Nat.reduceAdd, Nat.reduceLeDiff, Nat.reduceLT, reduceCtorEq, c26, k26, h50, q1, q2, d0, List.length_map]
  refine triH fun H1 hH1 => ?_
  refine TriI.loopL hg k26 l (fun i (p : DcL) => ⟨slotsL [(2, .ref 0 0 0), (3, .sc (.int .i64 0)), (6, .ref 1 0 0), (19, Cod.enc l), (20, .sc (.int .i64 l.length)), (21, .sc (.int .i64 i))], p.H, p.n⟩) (DcInv l) ⟨[], 2, H1⟩ (.slots ?_) ⟨rfl, ?_, ?_, Nat.le_refl _, fun k => ?_⟩ ?_ ?_
  · simp +contextual only [go_sem, ↓reduceIte, Nat.reduceEqDiff, Nat.reduceAdd, Nat.reduceLeDiff, Nat.reduceLT, reduceCtorEq, List.length_map]
    rfl
  · dsimp only; rw [hH1]; rfl
  · dsimp only; rw [hH1]; rfl
  · dsimp only; rw [hH1, updH_ne (by omega), updH_ne (by omega)]
  · rintro ⟨pre, n, H⟩ ⟨g1, g2, g3, g4, g5⟩
    dsimp only at g1 g2 g3 g4 g5 ⊢
    rw [List.append_nil] at g1
    subst g1
    rw [hfold, hrv] at g3
    simp +contextual only [go_sem, ↓reduceIte, Nat.reduceEqDiff, Nat.reduceAdd, Nat.reduceLeDiff, Nat.reduceLT, reduceCtorEq, k26, Int.lt_irrefl, decide_false, g2, g3, evV, h35, hev, d0, decL_enc Cod.dec_enc]
  · rintro i ⟨pre, n, H⟩ x xs hd hlt hx ⟨g1, g2, g3, g4, g5⟩
    dsimp only at g1 g2 g3 g4 g5 ⊢
    have hw := wrap_nat hlt (by omega)
    have hu : H n = .unborn := g5 0
    simp +contextual only [go_sem, ↓reduceIte, Nat.reduceEqDiff, Nat.reduceAdd, Nat.reduceLeDiff, Nat.reduceLT, reduceCtorEq, k26, lt_dec hlt, hx, List.getElem?_map, Option.map_some, Int.natCast_nonneg, Int.toNat_natCast, List.length_map, h56, hu]
    refine ct56 hg h77 h51 (id := 1) (ev := pre.foldl setF z0E) (rv := pre.foldl rvN (.sc (.slice none 0 0))) (x := x) (by omega) (fun k => ?_) ((updH_ne (by omega)).trans ((updH_ne (by omega)).trans g3)) (hall x (by rw [g1]; simp)) fun τ' n' H' hn' e1 e2 e3 => ?_
    · rw [updH_ne (by omega), updH_ne (by omega)]
      first | exact (congrArg H (by omega)).trans (g5 (1 + k)) | exact (congrArg H (by omega)).trans (g5 (2 + k)) | trace_state
    · have e0 : H' 0 = .live 10 [evV z0E (.sc (.slice none 0 0))] true := (e2 0 (by omega) (by decide)).trans ((updH_ne (by omega)).trans ((updH_ne (by omega)).trans g2))
      simp +contextual only [go_sem, ↓reduceIte, Nat.reduceEqDiff, Nat.reduceAdd, Nat.reduceLeDiff, Nat.reduceLT, reduceCtorEq, k26, hw]
      refine ⟨⟨pre ++ [x], n', H'⟩, ⟨by rw [g1]; simp, e0, by rw [List.foldl_append, List.foldl_append]; exact e1, by dsimp only; omega, e3⟩, .slots ?_⟩
      simp +contextual only [go_sem, ↓reduceIte, Nat.reduceEqDiff, Nat.reduceAdd, Nat.reduceLeDiff, Nat.reduceLT, reduceCtorEq]
end Go.Proofs.YteocedfakgdckaaDoor
