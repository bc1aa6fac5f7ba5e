/- Integers, fields and lists as bytes: plain. -/
import Derived.Test.YteocedfakgdckaaDoorIdent
import Derived.Laws.Bits64b
namespace Go.Proofs.YteocedfakgdckaaDoor
set_option linter.all false
open Go.Idl
def enc7 (u : Nat) : List UInt8 := if u < 128 then [UInt8.ofNat u] else UInt8.ofNat (u % 128 + 128) :: enc7 (u / 128)
termination_by u
decreasing_by omega
def val7 : List UInt8 → Nat
  | [] => 0
  | c :: cs => c.toNat % 128 + 128 * val7 cs
theorem u8_to {n : Nat} (h : n < 256) : (UInt8.ofNat n).toNat = n := by simp [UInt8.toNat_ofNat']; omega
theorem enc7_lo {u : Nat} (h : u < 128) : enc7 u = [UInt8.ofNat u] := by rw [enc7, if_pos h]
theorem enc7_hi {u : Nat} (h : ¬u < 128) : enc7 u = UInt8.ofNat (u % 128 + 128) :: enc7 (u / 128) := by rw [enc7, if_neg h]
theorem val7_enc (u : Nat) : val7 (enc7 u) = u := by
  induction u using enc7.induct with
  | case1 u h => rw [enc7_lo h, val7, val7, u8_to (by omega)]; omega
  | case2 u h ih => rw [enc7_hi h, val7, ih, u8_to (by omega)]; omega
theorem enc7_len (u : Nat) : ∀ k, u < 128 ^ (k + 1) → (enc7 u).length ≤ k + 1 := by
  induction u using enc7.induct with
  | case1 u h => intro k _; rw [enc7_lo h]; simp
  | case2 u h ih =>
    intro k hk
    rw [enc7_hi h]
    cases k with
    | zero => simp at hk; omega
    | succ k =>
      have := ih k (by rw [Nat.pow_succ] at hk; omega)
      simp only [List.length_cons]; omega
theorem enc7_pos (u : Nat) : 0 < (enc7 u).length := by
  by_cases h : u < 128
  · rw [enc7_lo h]; simp
  · rw [enc7_hi h]; simp
theorem enc7_split (u : Nat) : ∃ ds e, enc7 u = ds ++ [e] ∧ (∀ d, d ∈ ds → 128 ≤ d.toNat) ∧ e.toNat < 128 ∧ (u ≠ 0 → e.toNat ≠ 0) := by
  induction u using enc7.induct with
  | case1 u h => exact ⟨[], UInt8.ofNat u, by rw [enc7_lo h]; rfl, by simp, by rw [u8_to (by omega)]; exact h, fun h0 => by rw [u8_to (by omega)]; exact h0⟩
  | case2 u h ih =>
    obtain ⟨ds, e, h1, h2, h3, h4⟩ := ih
    refine ⟨UInt8.ofNat (u % 128 + 128) :: ds, e, by rw [enc7_hi h, h1]; rfl, fun d hd => ?_, h3, fun _ => h4 (by omega)⟩
    rcases List.mem_cons.1 hd with rfl | hd
    · rw [u8_to (by omega)]; omega
    · exact h2 d hd
theorem or_shift {a d k : Nat} (h : a < 2 ^ k) : a ||| (d <<< k) = a + d * 2 ^ k := by
  rw [Nat.or_comm, ← Nat.shiftLeft_add_eq_or_of_lt h, Nat.shiftLeft_eq]; omega
theorem and127 (c : Nat) : c &&& 127 = c % 128 := by
  have := Nat.and_two_pow_sub_one_eq_mod c 7
  simpa using this
theorem or128 {c : Nat} (h : c < 128) : c ||| 128 = c + 128 := by
  have := or_shift (d := 1) (k := 7) (a := c) (by simpa using h)
  simpa using this
theorem enc7_pre : ∀ (u v : Nat) (s t : List UInt8), enc7 u ++ s = enc7 v ++ t → u = v ∧ s = t := by
  intro u
  induction u using enc7.induct with
  | case1 u h =>
    intro v s t he
    rw [enc7_lo h] at he
    by_cases hv : v < 128
    · rw [enc7_lo hv] at he
      simp only [List.cons_append, List.nil_append, List.cons.injEq] at he
      have := congrArg UInt8.toNat he.1
      rw [u8_to (by omega), u8_to (by omega)] at this
      exact ⟨this, he.2⟩
    · rw [enc7_hi hv] at he
      simp only [List.cons_append, List.nil_append, List.cons.injEq] at he
      have := congrArg UInt8.toNat he.1
      rw [u8_to (by omega), u8_to (by omega)] at this
      omega
  | case2 u h ih =>
    intro v s t he
    rw [enc7_hi h] at he
    by_cases hv : v < 128
    · rw [enc7_lo hv] at he
      simp only [List.cons_append, List.nil_append, List.cons.injEq] at he
      have := congrArg UInt8.toNat he.1
      rw [u8_to (by omega), u8_to (by omega)] at this
      omega
    · rw [enc7_hi hv] at he
      simp only [List.cons_append, List.cons.injEq] at he
      have := congrArg UInt8.toNat he.1
      rw [u8_to (by omega), u8_to (by omega)] at this
      obtain ⟨h1, h2⟩ := ih _ _ _ he.2
      exact ⟨by omega, h2⟩
def encI (n : Int) : List UInt8 := enc7 (2 * n.toNat)
def okN (n : Int) : Prop := 0 ≤ n ∧ n < 1125899906842624
theorem encI_pre {m n : Int} {s t : List UInt8} (hm : 0 ≤ m) (hn : 0 ≤ n) (h : encI m ++ s = encI n ++ t) : m = n ∧ s = t := by
  obtain ⟨h1, h2⟩ := enc7_pre _ _ _ _ h
  exact ⟨by omega, h2⟩
theorem encI_inj {m n : Int} (hm : 0 ≤ m) (hn : 0 ≤ n) (h : encI m = encI n) : m = n :=
  (encI_pre (s := []) (t := []) hm hn (by rw [h])).1
theorem encI_len {n : Int} (h : okN n) : (encI n).length ≤ 8 := enc7_len _ 7 (by have := h.1; have := h.2; omega)
def encB (d : List UInt8) : List UInt8 := encI d.length ++ d
theorem encB_pre {d e s t : List UInt8} (h : encB d ++ s = encB e ++ t) : d = e ∧ s = t := by
  rw [encB, encB, List.append_assoc, List.append_assoc] at h
  obtain ⟨h1, h2⟩ := encI_pre (by omega) (by omega) h
  exact List.append_inj h2 (by omega)
def encFl : List FldD → List UInt8
  | [] => []
  | f :: l => encI f.tag ++ encB f.data ++ encFl l
theorem encI_ne (n : Int) (s : List UInt8) : encI n ++ s ≠ [] := by
  intro h
  have := congrArg List.length h
  have h2 : 0 < (encI n).length := by
    rw [encI, enc7]; split <;> simp
  simp at this
  simp [this.1] at h2
theorem encFl_inj : ∀ {l m : List FldD}, (∀ f, f ∈ l → 0 ≤ f.tag) → (∀ f, f ∈ m → 0 ≤ f.tag) → encFl l = encFl m → l = m
  | [], [], _, _, _ => rfl
  | [], g :: m, _, _, h => by rw [encFl, encFl, List.append_assoc] at h; exact absurd h.symm (encI_ne _ _)
  | f :: l, [], _, _, h => by rw [encFl, encFl, List.append_assoc] at h; exact absurd h (encI_ne _ _)
  | f :: l, g :: m, hl, hm, h => by
    rw [encFl, encFl, List.append_assoc, List.append_assoc] at h
    obtain ⟨h1, h2⟩ := encI_pre (hl f (by simp)) (hm g (by simp)) h
    obtain ⟨h3, h4⟩ := encB_pre h2
    have := encFl_inj (fun x hx => hl x (List.mem_cons_of_mem _ hx)) (fun x hx => hm x (List.mem_cons_of_mem _ hx)) h4
    subst this
    obtain ⟨ft, fd⟩ := f
    obtain ⟨gt, gd⟩ := g
    simp only at h1 h3
    subst h1 h3
    rfl
def encLs : List (List UInt8) → List UInt8
  | [] => []
  | d :: l => encB d ++ encLs l
def encL (l : List (List UInt8)) : List UInt8 := encI l.length ++ encLs l
theorem encLs_inj : ∀ {l m : List (List UInt8)}, l.length = m.length → encLs l = encLs m → l = m
  | [], [], _, _ => rfl
  | [], g :: m, h, _ => by simp at h
  | f :: l, [], h, _ => by simp at h
  | f :: l, g :: m, hl, h => by
    rw [encLs, encLs] at h
    obtain ⟨h3, h4⟩ := encB_pre h
    rw [h3, encLs_inj (by simpa using hl) h4]
theorem encL_inj {l m : List (List UInt8)} (h : encL l = encL m) : l = m := by
  obtain ⟨h1, h2⟩ := encI_pre (by omega) (by omega) h
  exact encLs_inj (by omega) h2
end Go.Proofs.YteocedfakgdckaaDoor
namespace Go.Proofs.YteocedfakgdckaaDoor
set_option linter.all false
open Go.Idl
set_option maxHeartbeats 8000000
set_option maxRecDepth 100000
attribute [local go_sem] Tryd.underlying3 Tryd.underlying5 Tryd.underlying141 Tryd.underlying9 Tryd.underlying4
abbrev SChk : List V → Option V := FT fun (t : Bool × Int × Unit) => if t.1 = true then some () else none
theorem con71 {Φ : Specs} (hg : Idl.Good Tryd.prog Φ) : Contract Tryd.prog 71 SChk := by
  refine conT hg k71 ic71 (by decide) fun C t r h => ?_
  obtain ⟨b, e, u⟩ := t
  dsimp only at h
  split at h
  · rename_i hb
    subst hb
    cases h
    simp +contextual only [go_sem, ↓reduceIte, Nat.reduceEqDiff, Nat.reduceAdd, Nat.reduceLeDiff, Nat.reduceLT, reduceCtorEq, c71, k71]
  · cases h
section
variable {P : Program} (ρ : Operand → V) (o : Oper) (isB : Bool) (a : Nat)
@[go_sem ↓] theorem w_shl1 : evBin P ρ o .shl isB (.sc (.int .u64 (a : Int))) (.sc (.int .u64 1)) = some (.sc (.int .u64 ((2 * a % 18446744073709551616 : Nat) : Int)), []) := by
  rw [bin_shl ρ o isB .u64 _ _ .u64 (by decide)]
  have : (min (Int.toNat 1) IntKind.u64.bits) = 1 := by decide
  rw [this, IntKind.wrap_u64]
  congr 4
  omega
@[go_sem ↓] theorem w_shr1 : evBin P ρ o .shr isB (.sc (.int .u64 (a : Int))) (.sc (.int .u64 1)) = some (.sc (.int .u64 ((a / 2 : Nat) : Int)), []) := by
  rw [bin_shr ρ o isB .u64 _ _ .u64 (by decide)]
  have : (min (Int.toNat 1) IntKind.u64.bits) = 1 := by decide
  rw [this, Int.fdiv_eq_ediv_of_nonneg _ (by decide)]; rfl
@[go_sem ↓] theorem w_shr7 : evBin P ρ o .shr isB (.sc (.int .u64 (a : Int))) (.sc (.int .u64 7)) = some (.sc (.int .u64 ((a / 128 : Nat) : Int)), []) := by
  rw [bin_shr ρ o isB .u64 _ _ .u64 (by decide)]
  have : (min (Int.toNat 7) IntKind.u64.bits) = 7 := by decide
  rw [this, Int.fdiv_eq_ediv_of_nonneg _ (by decide)]; rfl
@[go_sem ↓] theorem w_sar63 : evBin P ρ o .shr isB (.sc (.int .i64 (a : Int))) (.sc (.int .u64 63)) = some (.sc (.int .i64 ((a / 9223372036854775808 : Nat) : Int)), []) := by
  rw [bin_shr ρ o isB .i64 _ _ .u64 (by decide)]
  have : (min (Int.toNat 63) IntKind.i64.bits) = 63 := by decide
  rw [this, Int.fdiv_eq_ediv_of_nonneg _ (by decide)]; rfl
@[go_sem ↓] theorem w_shlN (s : Nat) : evBin P ρ o .shl isB (.sc (.int .u64 (a : Int))) (.sc (.int .i64 (s : Int))) = some (.sc (.int .u64 ((a * 2 ^ min s 64 % 18446744073709551616 : Nat) : Int)), []) := by
  rw [bin_shl ρ o isB .u64 _ _ .i64 (by omega)]
  have : (min (Int.toNat (s : Int)) IntKind.u64.bits) = min s 64 := by rw [Int.toNat_natCast]; rfl
  rw [this, IntKind.wrap_u64]
  congr 4
end
theorem wrap_u8n {a : Nat} (h : a < 256) : IntKind.u8.wrap (a : Int) = a := by simp [IntKind.wrap, IntKind.bits, IntKind.signed]; omega
theorem wrap_u64n {a : Nat} (h : a < 18446744073709551616) : IntKind.u64.wrap (a : Int) = a := by rw [IntKind.wrap_u64]; omega
theorem and_u64 (a b : Nat) (ha : a < 18446744073709551616) (hb : b < 18446744073709551616) : andI .u64 (a : Int) (b : Int) = ((a &&& b : Nat) : Int) := Go.bits_and_u64_nat a b ha hb
theorem or_u64 (a b : Nat) (ha : a < 18446744073709551616) (hb : b < 18446744073709551616) : orI .u64 (a : Int) (b : Int) = ((a ||| b : Nat) : Int) := Go.bits_or_u64_nat a b ha hb
theorem xor_u64 (a b : Nat) (ha : a < 18446744073709551616) (hb : b < 18446744073709551616) : xorI .u64 (a : Int) (b : Int) = ((a ^^^ b : Nat) : Int) := Go.bits_xor_u64_nat a b ha hb
theorem bv8 {a : Nat} (ha : a < 256) : (BitVec.ofInt 8 (a : Int)).toNat = a := by
  rw [BitVec.ofInt_natCast, BitVec.toNat_ofNat]; exact Nat.mod_eq_of_lt (by omega)
theorem and_u8 (a b : Nat) (ha : a < 256) (hb : b < 256) : andI .u8 (a : Int) (b : Int) = ((a &&& b : Nat) : Int) := by
  have hx : a &&& b < 2 ^ 8 := Nat.and_lt_two_pow _ (by omega)
  show IntKind.u8.wrap ((BitVec.ofInt 8 (a : Int) &&& BitVec.ofInt 8 (b : Int)).toNat : Int) = _
  rw [BitVec.toNat_and, bv8 ha, bv8 hb, wrap_u8n (by omega)]
theorem or_u8 (a b : Nat) (ha : a < 256) (hb : b < 256) : orI .u8 (a : Int) (b : Int) = ((a ||| b : Nat) : Int) := by
  have hx : a ||| b < 2 ^ 8 := Nat.or_lt_two_pow (by omega) (by omega)
  show IntKind.u8.wrap ((BitVec.ofInt 8 (a : Int) ||| BitVec.ofInt 8 (b : Int)).toNat : Int) = _
  rw [BitVec.toNat_or, bv8 ha, bv8 hb, wrap_u8n (by omega)]
theorem and127_u8 {a : Nat} (ha : a < 256) : andI .u8 (a : Int) 127 = ((a % 128 : Nat) : Int) := by
  have := and_u8 a 127 ha (by omega)
  rw [and127] at this
  exact this
theorem and127_u64 {a : Nat} (ha : a < 18446744073709551616) : andI .u64 (a : Int) 127 = ((a % 128 : Nat) : Int) := by
  have := and_u64 a 127 ha (by omega)
  rw [and127] at this
  exact this
theorem and1_u64 {a : Nat} (ha : a < 18446744073709551616) : andI .u64 (a : Int) 1 = ((a % 2 : Nat) : Int) := by
  have := and_u64 a 1 ha (by omega)
  rw [Nat.and_one_is_mod] at this
  exact this
theorem or128_u8 {a : Nat} (ha : a < 128) : orI .u8 (a : Int) 128 = ((a + 128 : Nat) : Int) := by
  have := or_u8 a 128 (by omega) (by omega)
  rw [or128 ha] at this
  exact this
theorem xor0_u64 {a : Nat} (ha : a < 18446744073709551616) : xorI .u64 (a : Int) 0 = (a : Int) := by
  have := xor_u64 a 0 ha (by omega)
  rw [Nat.xor_zero] at this
  exact this
theorem updH_ne {H : Heap} {k id : Nat} {x : Idl.Obj} (h : id ≠ k) : updH H k x id = H id := by unfold updH; rw [if_neg h]
theorem updH_at {H : Heap} {k : Nat} {x : Idl.Obj} : updH H k x k = x := by unfold updH; rw [if_pos rfl]
abbrev bufV (o : Option Nat) (bs : List UInt8) : V := match o with | none => .sc (.slice none 0 0) | some id => .own id 0 bs.length
def BufOk (H : Heap) (n : Nat) (o : Option Nat) (bs : List UInt8) : Prop := match o with | none => bs = [] | some id => id < n ∧ H id = .live 1 (bs.map Cod.enc) true
theorem okE_u8 (l : List UInt8) : (l.map Cod.enc).all (okE 1) = true := by
  simp only [List.all_map, List.all_eq_true]
  intro x _
  rfl
theorem okE1 (n : Int) : okE 1 (.sc (.int .u8 n)) = true := rfl
structure ApL where
  o : Option Nat
  acc : List UInt8
  u : Nat
  n : Nat
  H : Heap
structure ApInv (H0 : Heap) (n0 : Nat) (o0 : Option Nat) (bs : List UInt8) (p : ApL) : Prop where
  eq : p.acc ++ enc7 p.u = bs
  buf : BufOk p.H p.n p.o p.acc
  un : ∀ k, p.H (p.n + k) = .unborn
  le : n0 ≤ p.n
  ub : p.u < 2251799813685248
  fr : ∀ id, id < n0 → o0 ≠ some id → p.H id = H0 id
  old : p.o = o0 ∨ ∃ id, p.o = some id ∧ n0 ≤ id
theorem ap_next {H0 H : Heap} {n n' : Nat} {o o' : Option Nat} {acc : List UInt8} (x : UInt8) (ob : Idl.Obj) (g3 : ∀ k, H (n' + k) = .unborn) (g4 : n ≤ n') (g6 : ∀ id, id < n → o ≠ some id → H id = H0 id) (g7 : o' = o ∨ ∃ id, o' = some id ∧ n ≤ id) (g2 : BufOk H n' o' acc) :
    ∀ H2, H2 = updH (match o' with | none => updH H n' ob | some id => updH (updH H n' ob) id .dead) (n' + 1) (.live 1 ((acc ++ [x]).map Cod.enc) true) →
    BufOk H2 (n' + 2) (some (n' + 1)) (acc ++ [x]) ∧ (∀ k, H2 (n' + 2 + k) = .unborn) ∧ (∀ id, id < n → o ≠ some id → H2 id = H0 id) := by
  intro H2 hH2
  have un : ∀ k, H (n' + 2 + k) = .unborn := fun k => by rw [Nat.add_assoc]; exact g3 _
  cases o' with
  | none =>
    dsimp only at hH2
    subst hH2
    refine ⟨⟨by omega, updH_at⟩, fun k => ?_, fun id h1 h2 => ?_⟩
    · rw [updH_ne (by omega), updH_ne (by omega)]; exact un k
    · rw [updH_ne (by omega), updH_ne (by omega)]; exact g6 id h1 h2
  | some i =>
    dsimp only at hH2
    subst hH2
    obtain ⟨b1, b2⟩ := g2
    refine ⟨⟨by omega, updH_at⟩, fun k => ?_, fun id h1 h2 => ?_⟩
    · rw [updH_ne (by omega), updH_ne (by omega), updH_ne (by omega)]; exact un k
    · have hne : id ≠ i := by
        rintro rfl
        rcases g7 with g7 | ⟨j, g7, g8⟩
        · exact h2 g7.symm
        · cases g7; omega
      rw [updH_ne (by omega), updH_ne hne, updH_ne (by omega)]; exact g6 id h1 h2
theorem ct68 {Φ : Specs} (hg : Idl.Good Tryd.prog Φ) {C : Ctx} {H0 : Heap} {n : Nat} {o : Option Nat} {bs : List UInt8} {m : Int} {τ : Nat → V} {K : V → SF → Prop}
    (hun : ∀ k, H0 (n + k) = .unborn) (hb : BufOk H0 n o bs) (hm : okN m) (hl : bs.length ≤ 10000000)
    (hk : ∀ τ' H' n' id', n ≤ id' → BufOk H' n' (some id') (bs ++ encI m) → (∀ k, H' (n' + k) = .unborn) → (∀ id, id < n → o ≠ some id → H' id = H0 id) → K (bufV (some id') (bs ++ encI m)) ⟨τ', H', n'⟩) :
    CallT Tryd.prog C 68 [bufV o bs, .sc (.int .i64 m)] ⟨τ, H0, n⟩ K := by
  refine CallT.of_walk hg k68 ic68 (by simp) fun C' hlow => ?_
  obtain ⟨h0, h1⟩ := hm
  obtain ⟨M, rfl⟩ : ∃ M : Nat, m = M := ⟨m.toNat, by omega⟩
  have w1 : IntKind.u64.wrap (M : Int) = M := wrap_u64n (by omega)
  have w2 : M / 9223372036854775808 = 0 := by omega
  have w3 : 2 * M % 18446744073709551616 = 2 * M := by omega
  have w5 : IntKind.u64.wrap ((0 : Nat) : Int) = 0 := rfl
  have w4 : xorI .u64 ((2 * M : Nat) : Int) 0 = ((2 * M : Nat) : Int) := xor0_u64 (by omega)
  simp +contextual only [go_sem, ↓reduceIte, Nat.reduceEqDiff, Nat.reduceAdd, Nat.reduceLeDiff, Nat.reduceLT, reduceCtorEq, c68, k68, w1, w2, w3, w5, w4]
  have e1 : (encI (M : Int)).length ≤ 8 := encI_len ⟨by omega, h1⟩
  refine TriI.loopA hg k68 (fun p : ApL => ⟨slotsL [(0, bufV p.o p.acc), (5, .sc (.int .u64 (p.u : Int)))], p.H, p.n⟩) (ApInv H0 n o (bs ++ encI M)) (fun p => p.u) ⟨o, bs, 2 * M, n, H0⟩ (.slots ?_) ⟨by simp [encI], hb, hun, Nat.le_refl _, by dsimp only; omega, fun _ _ _ => rfl, .inl rfl⟩ ?_
  · simp +contextual only [go_sem, ↓reduceIte, Nat.reduceEqDiff, Nat.reduceAdd, Nat.reduceLeDiff, Nat.reduceLT, reduceCtorEq]
  · rintro ⟨o', acc, u, n', H⟩ ⟨g1, g2, g3, g4, g5, g6, g7⟩
    dsimp only at g1 g2 g3 g4 g5 g6 g7 ⊢
    have hu : H n' = .unborn := g3 0
    have hlen : acc.length ≤ 10000100 := by
      have := congrArg List.length g1
      simp only [List.length_append] at this
      omega
    have c5 : acc.length ≤ 68719476735 := by omega
    have c6 : acc.length ≤ 4294967295 := by omega
    rcases Nat.lt_or_ge u 128 with h | h
    · have d1 : decide ((u : Int) ≥ 128) = false := by simp; omega
      have c1 : IntKind.u8.wrap (u : Int) = u := wrap_u8n (by omega)
      rw [enc7_lo h] at g1
      have hx : (acc ++ [UInt8.ofNat u]).map Cod.enc = acc.map Cod.enc ++ [.sc (.int .u8 (u : Int))] := by rw [List.map_append, List.map_cons, enc_u8, u8_to (by omega)]; rfl
      obtain ⟨p1, p2, p3⟩ := ap_next (UInt8.ofNat u) (.live 1 [.sc (.int .u8 (u : Int))] true) g3 g4 g6 g7 g2 _ rfl
      rw [hx] at p1 p2 p3
      rw [g1] at p1
      have hL : (bs ++ encI (M : Int)).length = acc.length + 1 := by rw [← g1]; simp
      have hk2 := hk
      simp only [bufV, hL] at hk2
      cases o' with
      | none =>
        cases g2
        simp +contextual only [go_sem, ↓reduceIte, Nat.reduceEqDiff, Nat.reduceAdd, Nat.reduceLeDiff, Nat.reduceLT, reduceCtorEq, k68, bufV, d1, c1, hu, g3, Nat.add_eq_left, Nat.left_eq_add, Nat.add_assoc, Nat.mul_one, okE1, and_self]
        exact hk2 _ _ _ (n' + 1) (by omega) p1 p2 p3
      | some id =>
        obtain ⟨b1, b2⟩ := g2
        have z1 : ∀ k, (id = n' + k) = False := fun k => by simp; omega
        have z2 : (id = n') = False := by simp; omega
        simp +contextual only [go_sem, ↓reduceIte, Nat.reduceEqDiff, Nat.reduceAdd, Nat.reduceLeDiff, Nat.reduceLT, reduceCtorEq, k68, bufV, d1, c1, hu, g3, b2, z1, z2, List.length_map, Nat.zero_add, c5, c6, Nat.add_eq_left, Nat.left_eq_add, Nat.add_assoc, Nat.mul_one, okE1, and_self, Nat.add_left_cancel_iff]
        exact hk2 _ _ _ (n' + 1) (by omega) p1 p2 p3
    · have d1 : decide ((u : Int) ≥ 128) = true := by simp; omega
      have c1 : IntKind.u8.wrap ((u % 128 : Nat) : Int) = ((u % 128 : Nat) : Int) := wrap_u8n (by omega)
      have c2 : andI .u64 (u : Int) 127 = ((u % 128 : Nat) : Int) := and127_u64 (by omega)
      have c3 : orI .u8 ((u % 128 : Nat) : Int) 128 = ((u % 128 + 128 : Nat) : Int) := or128_u8 (by omega)
      rw [enc7_hi (by omega)] at g1
      have hx : (acc ++ [UInt8.ofNat (u % 128 + 128)]).map Cod.enc = acc.map Cod.enc ++ [.sc (.int .u8 ((u % 128 + 128 : Nat) : Int))] := by rw [List.map_append, List.map_cons, enc_u8, u8_to (by omega)]; rfl
      obtain ⟨p1, p2, p3⟩ := ap_next (UInt8.ofNat (u % 128 + 128)) (.live 1 [.sc (.int .u8 ((u % 128 + 128 : Nat) : Int))] true) g3 g4 g6 g7 g2 _ rfl
      rw [hx] at p1 p2 p3
      have g1' : (acc ++ [UInt8.ofNat (u % 128 + 128)]) ++ enc7 (u / 128) = bs ++ encI (M : Int) := by rw [List.append_assoc]; exact g1
      cases o' with
      | none =>
        cases g2
        simp +contextual only [go_sem, ↓reduceIte, Nat.reduceEqDiff, Nat.reduceAdd, Nat.reduceLeDiff, Nat.reduceLT, reduceCtorEq, k68, bufV, d1, c1, c2, c3, hu, g3, Nat.add_eq_left, Nat.left_eq_add, Nat.add_assoc, Nat.mul_one, okE1, and_self]
        refine ⟨⟨some (n' + 1), [] ++ [UInt8.ofNat (u % 128 + 128)], u / 128, n' + 2, _⟩, by dsimp only; omega, ⟨g1', p1, p2, by dsimp only; omega, by dsimp only; omega, p3, .inr ⟨_, rfl, by omega⟩⟩, .slots ?_⟩
        simp +contextual only [go_sem, ↓reduceIte, Nat.reduceEqDiff, Nat.reduceAdd, Nat.reduceLeDiff, Nat.reduceLT, reduceCtorEq, bufV, List.length_append, List.length_cons, List.length_nil, Nat.zero_add]
      | some id =>
        obtain ⟨b1, b2⟩ := g2
        have z1 : ∀ k, (id = n' + k) = False := fun k => by simp; omega
        have z2 : (id = n') = False := by simp; omega
        simp +contextual only [go_sem, ↓reduceIte, Nat.reduceEqDiff, Nat.reduceAdd, Nat.reduceLeDiff, Nat.reduceLT, reduceCtorEq, k68, bufV, d1, c1, c2, c3, hu, g3, b2, z1, z2, List.length_map, Nat.zero_add, c5, c6, Nat.add_eq_left, Nat.left_eq_add, Nat.add_assoc, Nat.mul_one, okE1, and_self, Nat.add_left_cancel_iff]
        refine ⟨⟨some (n' + 1), acc ++ [UInt8.ofNat (u % 128 + 128)], u / 128, n' + 2, _⟩, by dsimp only; omega, ⟨g1', p1, p2, by dsimp only; omega, by dsimp only; omega, p3, .inr ⟨_, rfl, by omega⟩⟩, .slots ?_⟩
        simp +contextual only [go_sem, ↓reduceIte, Nat.reduceEqDiff, Nat.reduceAdd, Nat.reduceLeDiff, Nat.reduceLT, reduceCtorEq, bufV, List.length_append, List.length_cons, List.length_nil, Nat.zero_add]
end Go.Proofs.YteocedfakgdckaaDoor
namespace Go.Proofs.YteocedfakgdckaaDoor
set_option linter.all false
open Go.Idl
set_option maxHeartbeats 8000000
set_option maxRecDepth 100000
attribute [local go_sem] Tryd.underlying3 Tryd.underlying5 Tryd.underlying141 Tryd.underlying9 Tryd.underlying4
instance (n : Int) : Decidable (okN n) := by unfold okN; exact inferInstance
@[go_sem] theorem isF_u8 (l : List UInt8) : (l.map Cod.enc).all V.isF = true := by
  simp only [List.all_map, List.all_eq_true]
  intro x _
  rfl
@[go_sem] theorem tk_u8 (l : List UInt8) : List.take l.length (l.map Cod.enc) = l.map Cod.enc := List.take_of_length_le (by simp)
attribute [go_sem] okE_u8
abbrev SPutI : List V → Option V := FT fun (t : Int × Unit) => if okN t.1 then some (encI t.1) else none
theorem con49 {Φ : Specs} (hg : Idl.Good Tryd.prog Φ) (h68 : Φ 68 = none) : Contract Tryd.prog 49 SPutI := by
  refine conT hg k49 ic49 (by decide) fun C t r h => ?_
  obtain ⟨m, u⟩ := t
  dsimp only at h
  split at h
  case isFalse => cases h
  rename_i hm
  cases h
  simp +contextual only [go_sem, ↓reduceIte, Nat.reduceEqDiff, Nat.reduceAdd, Nat.reduceLeDiff, Nat.reduceLT, reduceCtorEq, c49, k49, h68]
  refine ct68 hg (o := none) (bs := []) (fun _ => rfl) rfl hm (by simp) fun τ' H' n' id' h1 hB hU hF => ?_
  obtain ⟨b1, b2⟩ := hB
  simp +contextual only [go_sem, ↓reduceIte, Nat.reduceEqDiff, Nat.reduceAdd, Nat.reduceLeDiff, Nat.reduceLT, reduceCtorEq, k49, bufV, b2, List.length_map, List.nil_append, Nat.zero_add, Nat.le_refl, and_self, decL_enc Cod.dec_enc]
theorem encLs_app (a : List (List UInt8)) (x : List UInt8) : encLs (a ++ [x]) = encLs a ++ encB x := by
  induction a with
  | nil => simp [encLs]
  | cons y a ih => rw [List.cons_append, encLs, encLs, ih, List.append_assoc]
theorem encLs_mem {l : List (List UInt8)} {x : List UInt8} (h : x ∈ l) : x.length ≤ (encLs l).length := by
  induction l with
  | nil => cases h
  | cons y l ih =>
    rw [encLs, encB, List.length_append, List.length_append]
    rcases List.mem_cons.1 h with rfl | h
    · omega
    · have := ih h; omega
theorem encLs_pre {a xs : List (List UInt8)} : (encLs a).length ≤ (encLs (a ++ xs)).length := by
  induction a with
  | nil => simp [encLs]
  | cons y a ih => rw [List.cons_append, encLs, encLs, List.length_append, List.length_append]; omega
abbrev SPutL : List V → Option V := FT fun (t : List (List UInt8) × Unit) => if t.1.length ≤ 256 ∧ (encL t.1).length ≤ 1000000 then some (encL t.1, (0 : Int)) else none
structure GaL where
  id : Nat
  pre : List (List UInt8)
  n : Nat
  H : Heap
theorem con47 {Φ : Specs} (hg : Idl.Good Tryd.prog Φ) (h68 : Φ 68 = none) : Contract Tryd.prog 47 SPutL := by
  refine conT hg k47 ic47 (by decide) fun C t r h => ?_
  obtain ⟨l, u⟩ := t
  dsimp only at h
  split at h
  case isFalse => cases h
  rename_i hm
  obtain ⟨hl, hs⟩ := hm
  cases h
  have d0 : decide ((l.length : Int) > 256) = false := by simp; omega
  simp +contextual only [go_sem, ↓reduceIte, Nat.reduceEqDiff, Nat.reduceAdd, Nat.reduceLeDiff, Nat.reduceLT, reduceCtorEq, c47, k47, h68, d0, List.length_map]
  refine ct68 hg (o := none) (bs := []) (fun _ => rfl) rfl ⟨by omega, by omega⟩ (by simp) fun τ' H' n' id' h1 hB hU hF => ?_
  simp +contextual only [go_sem, ↓reduceIte, Nat.reduceEqDiff, Nat.reduceAdd, Nat.reduceLeDiff, Nat.reduceLT, reduceCtorEq, k47, bufV, List.length_map, List.nil_append]
  refine TriI.loopL hg k47 l (fun i (q : GaL) => ⟨slotsL [(4, .own q.id 0 (encI (l.length : Int) ++ encLs q.pre).length), (13, Cod.enc l), (14, .sc (.int .i64 l.length)), (15, .sc (.int .i64 i))], q.H, q.n⟩)
    (fun xs q => l = q.pre ++ xs ∧ BufOk q.H q.n (some q.id) (encI (l.length : Int) ++ encLs q.pre) ∧ ∀ k, q.H (q.n + k) = .unborn) ⟨id', [], n', H'⟩ (.slots ?_) ⟨rfl, ?_, hU⟩ ?_ ?_
  · simp +contextual only [go_sem, ↓reduceIte, Nat.reduceEqDiff, Nat.reduceAdd, Nat.reduceLeDiff, Nat.reduceLT, reduceCtorEq, encLs, List.append_nil]
    rfl
  · rw [List.nil_append] at hB
    rw [encLs, List.append_nil]; exact hB
  · rintro ⟨id, pre, n, H⟩ ⟨g1, g2, g3⟩
    dsimp only at g1 g2 g3 ⊢
    rw [List.append_nil] at g1
    subst g1
    obtain ⟨b1, b2⟩ := g2
    have hL : encI (l.length : Int) ++ encLs l = encL l := rfl
    rw [hL] at b2 ⊢
    simp +contextual only [go_sem, ↓reduceIte, Nat.reduceEqDiff, Nat.reduceAdd, Nat.reduceLeDiff, Nat.reduceLT, reduceCtorEq, k47, Int.lt_irrefl, decide_false, b2, List.length_map, Nat.zero_add, Nat.le_refl, and_self, decL_enc Cod.dec_enc]
  · rintro i ⟨id, pre, n, H⟩ x xs hd hlt hx ⟨g1, g2, g3⟩
    dsimp only at g1 g2 g3 ⊢
    have hw := wrap_nat hlt (by omega)
    have hxl : x.length ≤ 1000000 := by
      have := encLs_mem (l := l) (x := x) (by rw [g1]; simp)
      rw [encL, List.length_append] at hs
      omega
    have hal : (encI (l.length : Int) ++ encLs pre).length ≤ 1000000 := by
      have := encLs_pre (a := pre) (xs := x :: xs)
      rw [← g1] at this
      rw [encL, List.length_append] at hs
      rw [List.length_append]
      omega
    simp +contextual only [go_sem, ↓reduceIte, Nat.reduceEqDiff, Nat.reduceAdd, Nat.reduceLeDiff, Nat.reduceLT, reduceCtorEq, k47, lt_dec hlt, hx, List.getElem?_map, Option.map_some, Int.natCast_nonneg, Int.toNat_natCast, List.length_map, h68]
    refine ct68 hg (o := some id) (bs := encI (l.length : Int) ++ encLs pre) g3 g2 ⟨by omega, by omega⟩ (by omega) fun τ2 H2 n2 id2 h12 hB2 hU2 hF2 => ?_
    obtain ⟨b1, b2⟩ := hB2
    have hu2 : H2 n2 = .unborn := hU2 0
    have z1 : (n2 = id2) = False := by simp; omega
    have e1 : (encI (x.length : Int)).length ≤ 8 := encI_len ⟨by omega, by omega⟩
    have c1 : ((encI (l.length : Int) ++ encLs pre ++ encI (x.length : Int)).length + x.length) * 1 ≤ 68719476736 := by simp only [List.length_append] at hal ⊢; omega
    have c2 : (encI (l.length : Int) ++ encLs pre ++ encI (x.length : Int)).length + x.length ≤ 4294967296 := by simp only [List.length_append] at hal ⊢; omega
    generalize hB : encI (l.length : Int) ++ encLs pre ++ encI (x.length : Int) = B at *
    simp +contextual only [go_sem, ↓reduceIte, Nat.reduceEqDiff, Nat.reduceAdd, Nat.reduceLeDiff, Nat.reduceLT, reduceCtorEq, k47, bufV, List.length_map, b2, hu2, hU2, z1, Nat.zero_add, c1, c2, and_self, hw]
    have hBx : encI (l.length : Int) ++ encLs (pre ++ [x]) = B ++ x := by rw [← hB, encLs_app, encB]; simp only [List.append_assoc]
    refine ⟨⟨n2, pre ++ [x], n2 + 1, updH (updH H2 id2 .dead) n2 (.live 1 (B.map Cod.enc ++ x.map Cod.enc) true)⟩, ⟨by rw [g1]; simp, ⟨by dsimp only; omega, ?_⟩, fun k => ?_⟩, .slots ?_⟩
    · rw [hBx]
      exact updH_at.trans (by rw [List.map_append])
    · dsimp only
      rw [updH_ne (by omega), updH_ne (by omega)]
      exact (congrArg H2 (Nat.add_assoc _ _ _)).trans (hU2 _)
    · simp +contextual only [go_sem, ↓reduceIte, Nat.reduceEqDiff, Nat.reduceAdd, Nat.reduceLeDiff, Nat.reduceLT, reduceCtorEq, hBx, List.length_append]
abbrev okTags : Int → List FldD → Prop
  | _, [] => True
  | b, f :: l => b < f.tag ∧ f.tag ≤ 1000 ∧ okTags f.tag l
instance decTags : ∀ (b : Int) (l : List FldD), Decidable (okTags b l)
  | _, [] => isTrue trivial
  | b, f :: l => by
    have := decTags f.tag l
    unfold okTags
    exact inferInstance
theorem encFl_app (a : List FldD) (x : FldD) : encFl (a ++ [x]) = encFl a ++ (encI x.tag ++ encB x.data) := by
  induction a with
  | nil => simp [encFl]
  | cons y a ih => rw [List.cons_append, encFl, encFl, ih]; simp only [List.append_assoc]
theorem encFl_pre {a xs : List FldD} : (encFl a).length ≤ (encFl (a ++ xs)).length := by
  induction a with
  | nil => simp [encFl]
  | cons y a ih => rw [List.cons_append, encFl, encFl]; simp only [List.length_append]; omega
theorem encFl_mem {l : List FldD} {x : FldD} (h : x ∈ l) : x.data.length ≤ (encFl l).length := by
  induction l with
  | nil => cases h
  | cons y l ih =>
    rw [encFl, encB]
    simp only [List.length_append]
    rcases List.mem_cons.1 h with rfl | h
    · omega
    · have := ih h; omega
abbrev SPutF : List V → Option V := FT fun (t : List FldD × Unit) => if t.1.length ≤ 256 ∧ okTags 0 t.1 ∧ (encFl t.1).length ≤ 1000000 then some (encFl t.1, (0 : Int)) else none
structure GfL where
  o : Option Nat
  pre : List FldD
  n : Nat
  H : Heap
  before : Int
theorem con48 {Φ : Specs} (hg : Idl.Good Tryd.prog Φ) (h68 : Φ 68 = none) : Contract Tryd.prog 48 SPutF := by
  refine conT hg k48 ic48 (by decide) fun C t r h => ?_
  obtain ⟨l, u⟩ := t
  dsimp only at h
  split at h
  case isFalse => cases h
  rename_i hm
  obtain ⟨hl, hT, hs⟩ := hm
  cases h
  have d0 : decide ((l.length : Int) > 256) = false := by simp; omega
  simp +contextual only [go_sem, ↓reduceIte, Nat.reduceEqDiff, Nat.reduceAdd, Nat.reduceLeDiff, Nat.reduceLT, reduceCtorEq, c48, k48, d0, List.length_map]
  refine TriI.loopL hg k48 l (fun i (q : GfL) => ⟨slotsL [(4, bufV q.o (encFl q.pre)), (5, .sc (.int .i64 q.before)), (11, Cod.enc l), (12, .sc (.int .i64 l.length)), (13, .sc (.int .i64 i))], q.H, q.n⟩)
    (fun xs q => l = q.pre ++ xs ∧ okTags q.before xs ∧ 0 ≤ q.before ∧ BufOk q.H q.n q.o (encFl q.pre) ∧ ∀ k, q.H (q.n + k) = .unborn) ⟨none, [], 0, fun _ => .unborn, 0⟩ (.slots ?_) ⟨rfl, hT, Int.le_refl _, rfl, fun _ => rfl⟩ ?_ ?_
  · simp +contextual only [go_sem, ↓reduceIte, Nat.reduceEqDiff, Nat.reduceAdd, Nat.reduceLeDiff, Nat.reduceLT, reduceCtorEq, bufV]
    rfl
  · rintro ⟨o, pre, n, H, b⟩ ⟨g1, g2, g3, g4, g5⟩
    dsimp only at g1 g2 g3 g4 g5 ⊢
    rw [List.append_nil] at g1
    subst g1
    cases o with
    | none =>
      simp +contextual only [go_sem, ↓reduceIte, Nat.reduceEqDiff, Nat.reduceAdd, Nat.reduceLeDiff, Nat.reduceLT, reduceCtorEq, k48, bufV, Int.lt_irrefl, decide_false]
      rw [show encFl l = [] from g4]
    | some id =>
      obtain ⟨b1, b2⟩ := g4
      simp +contextual only [go_sem, ↓reduceIte, Nat.reduceEqDiff, Nat.reduceAdd, Nat.reduceLeDiff, Nat.reduceLT, reduceCtorEq, k48, bufV, Int.lt_irrefl, decide_false, b2, List.length_map, Nat.zero_add, Nat.le_refl, and_self, decL_enc Cod.dec_enc]
  · rintro i ⟨o, pre, n, H, b⟩ x xs hd hlt hx ⟨g1, g2, g3, g4, g5⟩
    dsimp only at g1 g2 g3 g4 g5 ⊢
    obtain ⟨t1, t2, t3⟩ := g2
    have hw := wrap_nat hlt (by omega)
    have hxl : x.data.length ≤ 1000000 := by
      have := encFl_mem (l := l) (x := x) (by rw [g1]; simp)
      omega
    have hal : (encFl pre).length ≤ 1000000 := by
      have := encFl_pre (a := pre) (xs := x :: xs)
      rw [← g1] at this
      omega
    have f1 : decide (x.tag < 1) = false := by simp; omega
    have f2 : decide (x.tag > 1000) = false := by simp; omega
    have f3 : decide (x.tag ≤ b) = false := by simp; omega
    have hu : H n = .unborn := g5 0
    have hunA : ∀ k, updH (updH H n (.live 2 [.agg [.sc (.int .i64 0), .sc (.slice none 0 0)]] true)) n (.live 2 [.agg [.sc (.int .i64 x.tag), .slice 1 (x.data.map Cod.enc)]] true) (n + 1 + 1 + k) = .unborn := fun k => by
      rw [updH_ne (by omega), updH_ne (by omega)]
      exact (congrArg H (by omega)).trans (g5 (2 + k))
    have hon : o ≠ some n := fun h => by subst h; have := g4.1; omega
    have hbA : BufOk (updH (updH H n (.live 2 [.agg [.sc (.int .i64 0), .sc (.slice none 0 0)]] true)) n (.live 2 [.agg [.sc (.int .i64 x.tag), .slice 1 (x.data.map Cod.enc)]] true)) (n + 1 + 1) o (encFl pre) := by
      cases o with
      | none => exact g4
      | some id =>
        obtain ⟨q1, q2⟩ := g4
        exact ⟨by omega, (updH_ne (by omega)).trans ((updH_ne (by omega)).trans q2)⟩
    have e1 : (encI x.tag).length ≤ 8 := encI_len ⟨by omega, by omega⟩
    rcases Nat.eq_zero_or_pos i with h0 | h0
    · have f4 : decide ((i : Int) > 0) = false := by simp; omega
      simp +contextual only [go_sem, ↓reduceIte, Nat.reduceEqDiff, Nat.reduceAdd, Nat.reduceLeDiff, Nat.reduceLT, reduceCtorEq, k48, lt_dec hlt, hx, List.getElem?_map, Option.map_some, Int.natCast_nonneg, Int.toNat_natCast, List.length_map, h68, f1, f2, f3, f4, hu]
      refine ct68 hg (o := o) (bs := encFl pre) hunA hbA ⟨by omega, by omega⟩ (by omega) fun τ1 H1 n1 id1 h11 hB1 hU1 hF1 => ?_
      have hbox : H1 n = .live 2 [.agg [.sc (.int .i64 x.tag), .slice 1 (x.data.map Cod.enc)]] true := (hF1 n (by omega) hon).trans updH_at
      simp +contextual only [go_sem, ↓reduceIte, Nat.reduceEqDiff, Nat.reduceAdd, Nat.reduceLeDiff, Nat.reduceLT, reduceCtorEq, k48, hbox, h68, List.length_map]
      refine ct68 hg (o := some id1) (bs := encFl pre ++ encI x.tag) hU1 hB1 ⟨by omega, by omega⟩ (by simp only [List.length_append]; omega) fun τ2 H2 n2 id2 h12 hB2 hU2 hF2 => ?_
      have hid1 : n + 2 ≤ id1 := h11
      have hid1' : id1 < n1 := hB1.1
      have hbox2 : H2 n = .live 2 [.agg [.sc (.int .i64 x.tag), .slice 1 (x.data.map Cod.enc)]] true := (hF2 n (by omega) (fun h => by cases h; omega)).trans hbox
      obtain ⟨b1, b2⟩ := hB2
      have hu2 : H2 n2 = .unborn := hU2 0
      have z1 : (n2 = id2) = False := by simp; omega
      have e2 : (encI (x.data.length : Int)).length ≤ 8 := encI_len ⟨by omega, by omega⟩
      have c1 : (encFl pre ++ encI x.tag ++ encI (x.data.length : Int)).length + x.data.length ≤ 68719476736 := by simp only [List.length_append]; omega
      have c2 : (encFl pre ++ encI x.tag ++ encI (x.data.length : Int)).length + x.data.length ≤ 4294967296 := by simp only [List.length_append]; omega
      have hBx : encFl (pre ++ [x]) = encFl pre ++ encI x.tag ++ encI (x.data.length : Int) ++ x.data := by rw [encFl_app, encB]; simp only [List.append_assoc]
      generalize hB : encFl pre ++ encI x.tag ++ encI (x.data.length : Int) = B at *
      simp +contextual only [go_sem, ↓reduceIte, Nat.reduceEqDiff, Nat.reduceAdd, Nat.reduceLeDiff, Nat.reduceLT, reduceCtorEq, k48, bufV, List.length_map, hbox2, b2, hu2, hU2, z1, Nat.zero_add, Nat.mul_one, c1, c2, and_self, hw]
      refine ⟨⟨some n2, pre ++ [x], n2 + 1, updH (updH H2 id2 .dead) n2 (.live 1 (B.map Cod.enc ++ x.data.map Cod.enc) true), x.tag⟩, ⟨by rw [g1]; simp, t3, by dsimp only; omega, ⟨by dsimp only; omega, ?_⟩, fun k => ?_⟩, .slots ?_⟩
      · rw [hBx]
        exact updH_at.trans (by rw [List.map_append])
      · dsimp only
        rw [updH_ne (by omega), updH_ne (by omega)]
        exact (congrArg H2 (Nat.add_assoc _ _ _)).trans (hU2 _)
      · simp +contextual only [go_sem, ↓reduceIte, Nat.reduceEqDiff, Nat.reduceAdd, Nat.reduceLeDiff, Nat.reduceLT, reduceCtorEq, hBx, bufV, List.length_append]
    · have f4 : decide ((i : Int) > 0) = true := by simp; omega
      simp +contextual only [go_sem, ↓reduceIte, Nat.reduceEqDiff, Nat.reduceAdd, Nat.reduceLeDiff, Nat.reduceLT, reduceCtorEq, k48, lt_dec hlt, hx, List.getElem?_map, Option.map_some, Int.natCast_nonneg, Int.toNat_natCast, List.length_map, h68, f1, f2, f3, f4, hu]
      refine ct68 hg (o := o) (bs := encFl pre) hunA hbA ⟨by omega, by omega⟩ (by omega) fun τ1 H1 n1 id1 h11 hB1 hU1 hF1 => ?_
      have hbox : H1 n = .live 2 [.agg [.sc (.int .i64 x.tag), .slice 1 (x.data.map Cod.enc)]] true := (hF1 n (by omega) hon).trans updH_at
      simp +contextual only [go_sem, ↓reduceIte, Nat.reduceEqDiff, Nat.reduceAdd, Nat.reduceLeDiff, Nat.reduceLT, reduceCtorEq, k48, hbox, h68, List.length_map]
      refine ct68 hg (o := some id1) (bs := encFl pre ++ encI x.tag) hU1 hB1 ⟨by omega, by omega⟩ (by simp only [List.length_append]; omega) fun τ2 H2 n2 id2 h12 hB2 hU2 hF2 => ?_
      have hid1 : n + 2 ≤ id1 := h11
      have hid1' : id1 < n1 := hB1.1
      have hbox2 : H2 n = .live 2 [.agg [.sc (.int .i64 x.tag), .slice 1 (x.data.map Cod.enc)]] true := (hF2 n (by omega) (fun h => by cases h; omega)).trans hbox
      obtain ⟨b1, b2⟩ := hB2
      have hu2 : H2 n2 = .unborn := hU2 0
      have z1 : (n2 = id2) = False := by simp; omega
      have e2 : (encI (x.data.length : Int)).length ≤ 8 := encI_len ⟨by omega, by omega⟩
      have c1 : (encFl pre ++ encI x.tag ++ encI (x.data.length : Int)).length + x.data.length ≤ 68719476736 := by simp only [List.length_append]; omega
      have c2 : (encFl pre ++ encI x.tag ++ encI (x.data.length : Int)).length + x.data.length ≤ 4294967296 := by simp only [List.length_append]; omega
      have hBx : encFl (pre ++ [x]) = encFl pre ++ encI x.tag ++ encI (x.data.length : Int) ++ x.data := by rw [encFl_app, encB]; simp only [List.append_assoc]
      generalize hB : encFl pre ++ encI x.tag ++ encI (x.data.length : Int) = B at *
      simp +contextual only [go_sem, ↓reduceIte, Nat.reduceEqDiff, Nat.reduceAdd, Nat.reduceLeDiff, Nat.reduceLT, reduceCtorEq, k48, bufV, List.length_map, hbox2, b2, hu2, hU2, z1, Nat.zero_add, Nat.mul_one, c1, c2, and_self, hw]
      refine ⟨⟨some n2, pre ++ [x], n2 + 1, updH (updH H2 id2 .dead) n2 (.live 1 (B.map Cod.enc ++ x.data.map Cod.enc) true), x.tag⟩, ⟨by rw [g1]; simp, t3, by dsimp only; omega, ⟨by dsimp only; omega, ?_⟩, fun k => ?_⟩, .slots ?_⟩
      · rw [hBx]
        exact updH_at.trans (by rw [List.map_append])
      · dsimp only
        rw [updH_ne (by omega), updH_ne (by omega)]
        exact (congrArg H2 (Nat.add_assoc _ _ _)).trans (hU2 _)
      · simp +contextual only [go_sem, ↓reduceIte, Nat.reduceEqDiff, Nat.reduceAdd, Nat.reduceLeDiff, Nat.reduceLT, reduceCtorEq, hBx, bufV, List.length_append]
end Go.Proofs.YteocedfakgdckaaDoor
namespace Go.Proofs.YteocedfakgdckaaDoor
set_option linter.all false
open Go.Idl
set_option maxHeartbeats 8000000
set_option maxRecDepth 100000
attribute [local go_sem] Tryd.underlying3 Tryd.underlying5 Tryd.underlying141 Tryd.underlying9 Tryd.underlying4
theorem xor0_i64 {a : Nat} (ha : a < 9223372036854775808) : xorI .i64 (a : Int) 0 = (a : Int) := by
  have h1 : (BitVec.ofInt 64 (a : Int)).toNat = a := by
    rw [BitVec.ofInt_natCast, BitVec.toNat_ofNat]; exact Nat.mod_eq_of_lt (by omega)
  show IntKind.i64.wrap ((BitVec.ofInt 64 (a : Int) ^^^ BitVec.ofInt 64 ((0 : Nat) : Int)).toNat : Int) = _
  rw [BitVec.toNat_xor, h1, show (BitVec.ofInt 64 ((0 : Nat) : Int)).toNat = 0 from rfl, Nat.xor_zero, IntKind.wrap_i64]
  omega
theorem val7_lt : ∀ (l : List UInt8), val7 l < 128 ^ l.length
  | [] => by simp [val7]
  | c :: l => by
    have := val7_lt l
    rw [val7, List.length_cons, Nat.pow_succ]
    omega
theorem val7_app (x : UInt8) : ∀ (l : List UInt8), val7 (l ++ [x]) = val7 l + (x.toNat % 128) * 128 ^ l.length
  | [] => by simp [val7]
  | c :: l => by
    rw [List.cons_append, val7, val7_app x l, val7, List.length_cons, Nat.pow_succ, Nat.mul_add]
    have : 128 * (x.toNat % 128 * 128 ^ l.length) = x.toNat % 128 * (128 ^ l.length * 128) := by
      rw [Nat.mul_comm 128, Nat.mul_assoc]
    omega
abbrev rdV (l : List UInt8) : Idl.Obj := .live 1 [.slice 1 (l.map Cod.enc)] true
def RdAt (H : Heap) (r : Nat) (l : List UInt8) : Prop := ∃ e, H r = .live 1 [e] true ∧ e.cells = [.slice 1 (l.map Cod.enc)]
theorem ct72 {Φ : Specs} (hg : Idl.Good Tryd.prog Φ) (hchk : Φ 71 = some SChk) {C : Ctx} {H0 : Heap} {n r : Nat} {m : Int} {tail : List UInt8} {τ : Nat → V} {K : V → SF → Prop}
    (hr : r < n) (hR : RdAt H0 r (encI m ++ tail)) (hm : okN m) (hl : (encI m ++ tail).length ≤ 10000000)
    (hk : ∀ τ' n', n ≤ n' → K (.sc (.int .i64 m)) ⟨τ', updH H0 r (rdV tail), n'⟩) :
    CallT Tryd.prog C 72 [.ref r 0 0] ⟨τ, H0, n⟩ K := by
  refine CallT.of_walk hg k72 ic72 (by simp) fun C' hlow => ?_
  obtain ⟨e0, hR, hc0⟩ := hR
  have h8 := encI_len hm
  obtain ⟨h0, h1⟩ := hm
  obtain ⟨M, rfl⟩ : ∃ M : Nat, m = M := ⟨m.toNat, by omega⟩
  obtain ⟨ds, e, s1, s2, s3, s4⟩ := enc7_split (2 * (M : Int).toNat)
  have sv := val7_enc (2 * (M : Int).toNat)
  rw [s1] at sv
  rw [show encI (M : Int) = ds ++ [e] from s1] at hc0 hl h8
  have hE : e.toNat ≠ 0 ∨ ds.length = 0 := by
    by_cases hM : 2 * (M : Int).toNat = 0
    · rw [hM, enc7_lo (by omega)] at s1
      have := congrArg List.length s1
      simp at this
      exact .inr (by rw [this]; rfl)
    · exact .inl (s4 hM)
  clear s1
  obtain ⟨B, hB⟩ : ∃ B, B = ds ++ [e] := ⟨_, rfl⟩
  obtain ⟨L, hL⟩ : ∃ L, L = ds ++ [e] ++ tail := ⟨_, rfl⟩
  rw [← hL] at hc0 hl
  rw [← hB] at sv
  have h7 : ds.length ≤ 7 := by simp at h8; omega
  have hLl : L.length = ds.length + 1 + tail.length := by rw [hL]; simp; omega
  have hLi : ∀ i, i < ds.length → ∃ c : UInt8, L[i]? = some c ∧ 128 ≤ c.toNat := fun i hi => by
    refine ⟨ds[i], ?_, s2 _ (List.getElem_mem hi)⟩
    rw [hL, List.append_assoc, List.getElem?_append_left hi, List.getElem?_eq_getElem hi]
  have hLe : L[ds.length]? = some e := by rw [hL]; simp
  have t1 : List.take (ds.length + 1) (L.map Cod.enc) = B.map (Cod.enc (α := UInt8)) := by
    rw [← List.map_take, hL, hB]
    congr 1
    exact List.take_left' (by simp)
  have t2 : List.drop (ds.length + 1) (L.map Cod.enc) = tail.map (Cod.enc (α := UInt8)) := by
    rw [← List.map_drop, hL]
    congr 1
    exact List.drop_left' (by simp)
  simp only [V.cells] at hc0
  simp +contextual only [go_sem, ↓reduceIte, Nat.reduceEqDiff, Nat.reduceAdd, Nat.reduceLeDiff, Nat.reduceLT, reduceCtorEq, c72, k72]
  refine TriI.loopA hg k72 (fun i : Nat => ⟨slotsL [(0, .ref r 0 0), (3, .sc (.int .i64 (i : Int)))], H0, n⟩) (fun i => i ≤ ds.length) (fun i => ds.length - i) 0 (.slots ?_) (Nat.zero_le _) ?_
  · simp +contextual only [go_sem, ↓reduceIte, Nat.reduceEqDiff, Nat.reduceAdd, Nat.reduceLeDiff, Nat.reduceLT, reduceCtorEq]
    rfl
  · intro i hi
    have d1 : decide ((i : Int) < (L.length : Int)) = true := by simp; omega
    have d2 : decide ((i : Int) < 10) = true := by simp; omega
    rcases Nat.lt_or_ge i ds.length with hlt | hge
    · obtain ⟨c, c1, c2⟩ := hLi i hlt
      have d3 : decide ((c.toNat : Int) ≥ 128) = true := by simp; omega
      have w1 : IntKind.i64.wrap ((i : Int) + 1) = ((i + 1 : Nat) : Int) := by rw [IntKind.wrap_i64]; omega
      simp +contextual only [go_sem, ↓reduceIte, Nat.reduceEqDiff, Nat.reduceAdd, Nat.reduceLeDiff, Nat.reduceLT, reduceCtorEq, k72, hR, hc0, List.length_map, d1, d2, d3, c1, w1, List.getElem?_map, Option.map_some, Int.natCast_nonneg, Int.toNat_natCast]
      exact ⟨i + 1, by dsimp only; omega, by dsimp only; omega, .slots (by simp +contextual only [go_sem, ↓reduceIte, Nat.reduceEqDiff, Nat.reduceAdd, Nat.reduceLeDiff, Nat.reduceLT, reduceCtorEq])⟩
    · obtain rfl : i = ds.length := by omega
      have d3 : decide ((e.toNat : Int) ≥ 128) = false := by simp; omega
      have d6 : decide ((ds.length : Int) < 9) = true := by simp; omega
      have w1 : IntKind.i64.wrap ((ds.length : Int) + 1) = ((ds.length + 1 : Nat) : Int) := by rw [IntKind.wrap_i64]; omega
      have q1 : ds.length + 1 ≤ L.length := by omega
      have hBl : B.length = ds.length + 1 := by rw [hB]; simp
      rcases hE with hE | hE
      · have d4 : ((e.toNat : Int) != 0) = true := bne_iff_ne.2 (by omega)
        simp +contextual only [go_sem, ↓reduceIte, Nat.reduceEqDiff, Nat.reduceAdd, Nat.reduceLeDiff, Nat.reduceLT, reduceCtorEq, k72, hR, hc0, hchk, List.length_map, d1, d2, d3, d4, d6, hLe, w1, t1, hBl, q1, Int.natCast_nonneg, Int.toNat_natCast, List.getElem?_map, Option.map_some, Option.map_none, Nat.zero_le, List.drop_zero]
        refine TriI.loopL hg k72 B (fun i (pre : List UInt8) => ⟨slotsL [(0, .ref r 0 0), (3, .sc (.int .i64 (ds.length : Int))), (5, .sc (.int .u64 (val7 pre : Nat))), (69, .slice 1 (B.map Cod.enc)), (70, .sc (.int .i64 (B.length : Int))), (71, .sc (.int .i64 i))], H0, n⟩) (fun xs pre => B = pre ++ xs) [] (.slots ?_) rfl ?_ ?_
        · simp +contextual only [go_sem, ↓reduceIte, Nat.reduceEqDiff, Nat.reduceAdd, Nat.reduceLeDiff, Nat.reduceLT, reduceCtorEq, val7, hBl]
          rfl
        · intro pre hp
          rw [List.append_nil] at hp
          subst hp
          rw [sv, Int.toNat_natCast]
          have x1 : 2 * M / 2 = M := by omega
          have x2 : andI .u64 ((2 * M : Nat) : Int) 1 = ((0 : Nat) : Int) := by rw [and1_u64 (by omega)]; congr 1; omega
          have x3 : IntKind.i64.wrap ((M : Nat) : Int) = M := by rw [IntKind.wrap_i64]; omega
          have x4 : IntKind.i64.wrap ((0 : Nat) : Int) = 0 := rfl
          have x5 : IntKind.i64.wrap (0 - (0 : Int)) = 0 := rfl
          have x6 : xorI .i64 ((M : Nat) : Int) 0 = M := xor0_i64 (by omega)
          simp +contextual only [go_sem, ↓reduceIte, Nat.reduceEqDiff, Nat.reduceAdd, Nat.reduceLeDiff, Nat.reduceLT, reduceCtorEq, k72, Int.lt_irrefl, decide_false, hR, hc0, w1, t2, q1, List.length_map, Nat.le_refl, List.take_length, Int.natCast_nonneg, Int.toNat_natCast, Option.map_some, Option.map_none, x1, x2, x3, x4, x5, x6]
          exact hk _ _ (by omega)
        · intro i pre x xs hd hlt hx hp
          have hpi := drop_pre hd hp
          have hx7 : x.toNat < 256 := x.toNat_lt
          have hi7 : i ≤ 7 := by omega
          have hw := wrap_nat hlt (by omega)
          have y1 : andI .u8 (x.toNat : Int) 127 = ((x.toNat % 128 : Nat) : Int) := and127_u8 hx7
          have y2 : IntKind.u64.wrap ((x.toNat % 128 : Nat) : Int) = ((x.toNat % 128 : Nat) : Int) := wrap_u64n (by omega)
          have y3 : IntKind.i64.wrap (7 * (i : Int)) = ((7 * i : Nat) : Int) := by rw [IntKind.wrap_i64]; omega
          have y4 : (128 : Nat) ^ i = 2 ^ (7 * i) := by rw [Nat.pow_mul]
          have y5 : (2 : Nat) ^ (7 * i) ≤ 2 ^ 49 := Nat.pow_le_pow_right (by decide) (by omega)
          have y6 : x.toNat % 128 * 2 ^ min (7 * i) 64 % 18446744073709551616 = x.toNat % 128 * 2 ^ (7 * i) := by
            rw [Nat.min_eq_left (by omega)]
            have : x.toNat % 128 * 2 ^ (7 * i) ≤ 127 * 2 ^ 49 := Nat.mul_le_mul (by omega) y5
            omega
          have y7 := val7_lt pre
          rw [← hpi, y4] at y7
          have y9 : x.toNat % 128 * 2 ^ (7 * i) ≤ 127 * 2 ^ 49 := Nat.mul_le_mul (by omega) y5
          have y8 : orI .u64 (val7 pre : Nat) ((x.toNat % 128 * 2 ^ (7 * i) : Nat) : Int) = ((val7 (pre ++ [x]) : Nat) : Int) := by
            rw [or_u64 _ _ (by omega) (by omega), val7_app, ← hpi, y4]
            congr 1
            rw [← Nat.shiftLeft_eq, or_shift y7, Nat.shiftLeft_eq]
          simp +contextual only [go_sem, ↓reduceIte, Nat.reduceEqDiff, Nat.reduceAdd, Nat.reduceLeDiff, Nat.reduceLT, reduceCtorEq, k72, lt_dec hlt, hx, List.getElem?_map, Option.map_some, Int.natCast_nonneg, Int.toNat_natCast, y1, y2, y3, y6, y8, hw]
          exact ⟨pre ++ [x], by rw [hp]; simp, .slots (by simp +contextual only [go_sem, ↓reduceIte, Nat.reduceEqDiff, Nat.reduceAdd, Nat.reduceLeDiff, Nat.reduceLT, reduceCtorEq])⟩
      · rcases Nat.eq_zero_or_pos e.toNat with hz | hz
        · have d4 : ((e.toNat : Int) != 0) = false := by rw [hz]; rfl
          have d5 : ((ds.length : Int) == 0) = true := by rw [hE]; rfl
          simp +contextual only [go_sem, ↓reduceIte, Nat.reduceEqDiff, Nat.reduceAdd, Nat.reduceLeDiff, Nat.reduceLT, reduceCtorEq, k72, hR, hc0, hchk, List.length_map, d1, d2, d3, d4, d6, hLe, w1, t1, hBl, q1, Int.natCast_nonneg, Int.toNat_natCast, List.getElem?_map, Option.map_some, Option.map_none, Nat.zero_le, List.drop_zero, d5]
          refine TriI.loopL hg k72 B (fun i (pre : List UInt8) => ⟨slotsL [(0, .ref r 0 0), (3, .sc (.int .i64 (ds.length : Int))), (5, .sc (.int .u64 (val7 pre : Nat))), (69, .slice 1 (B.map Cod.enc)), (70, .sc (.int .i64 (B.length : Int))), (71, .sc (.int .i64 i))], H0, n⟩) (fun xs pre => B = pre ++ xs) [] (.slots ?_) rfl ?_ ?_
          · simp +contextual only [go_sem, ↓reduceIte, Nat.reduceEqDiff, Nat.reduceAdd, Nat.reduceLeDiff, Nat.reduceLT, reduceCtorEq, val7, hBl]
            rfl
          · intro pre hp
            rw [List.append_nil] at hp
            subst hp
            rw [sv, Int.toNat_natCast]
            have x1 : 2 * M / 2 = M := by omega
            have x2 : andI .u64 ((2 * M : Nat) : Int) 1 = ((0 : Nat) : Int) := by rw [and1_u64 (by omega)]; congr 1; omega
            have x3 : IntKind.i64.wrap ((M : Nat) : Int) = M := by rw [IntKind.wrap_i64]; omega
            have x4 : IntKind.i64.wrap ((0 : Nat) : Int) = 0 := rfl
            have x5 : IntKind.i64.wrap (0 - (0 : Int)) = 0 := rfl
            have x6 : xorI .i64 ((M : Nat) : Int) 0 = M := xor0_i64 (by omega)
            simp +contextual only [go_sem, ↓reduceIte, Nat.reduceEqDiff, Nat.reduceAdd, Nat.reduceLeDiff, Nat.reduceLT, reduceCtorEq, k72, Int.lt_irrefl, decide_false, hR, hc0, w1, t2, q1, List.length_map, Nat.le_refl, List.take_length, Int.natCast_nonneg, Int.toNat_natCast, Option.map_some, Option.map_none, x1, x2, x3, x4, x5, x6]
            exact hk _ _ (by omega)
          · intro i pre x xs hd hlt hx hp
            have hpi := drop_pre hd hp
            have hx7 : x.toNat < 256 := x.toNat_lt
            have hi7 : i ≤ 7 := by omega
            have hw := wrap_nat hlt (by omega)
            have y1 : andI .u8 (x.toNat : Int) 127 = ((x.toNat % 128 : Nat) : Int) := and127_u8 hx7
            have y2 : IntKind.u64.wrap ((x.toNat % 128 : Nat) : Int) = ((x.toNat % 128 : Nat) : Int) := wrap_u64n (by omega)
            have y3 : IntKind.i64.wrap (7 * (i : Int)) = ((7 * i : Nat) : Int) := by rw [IntKind.wrap_i64]; omega
            have y4 : (128 : Nat) ^ i = 2 ^ (7 * i) := by rw [Nat.pow_mul]
            have y5 : (2 : Nat) ^ (7 * i) ≤ 2 ^ 49 := Nat.pow_le_pow_right (by decide) (by omega)
            have y6 : x.toNat % 128 * 2 ^ min (7 * i) 64 % 18446744073709551616 = x.toNat % 128 * 2 ^ (7 * i) := by
              rw [Nat.min_eq_left (by omega)]
              have : x.toNat % 128 * 2 ^ (7 * i) ≤ 127 * 2 ^ 49 := Nat.mul_le_mul (by omega) y5
              omega
            have y7 := val7_lt pre
            rw [← hpi, y4] at y7
            have y9 : x.toNat % 128 * 2 ^ (7 * i) ≤ 127 * 2 ^ 49 := Nat.mul_le_mul (by omega) y5
            have y8 : orI .u64 (val7 pre : Nat) ((x.toNat % 128 * 2 ^ (7 * i) : Nat) : Int) = ((val7 (pre ++ [x]) : Nat) : Int) := by
              rw [or_u64 _ _ (by omega) (by omega), val7_app, ← hpi, y4]
              congr 1
              rw [← Nat.shiftLeft_eq, or_shift y7, Nat.shiftLeft_eq]
            simp +contextual only [go_sem, ↓reduceIte, Nat.reduceEqDiff, Nat.reduceAdd, Nat.reduceLeDiff, Nat.reduceLT, reduceCtorEq, k72, lt_dec hlt, hx, List.getElem?_map, Option.map_some, Int.natCast_nonneg, Int.toNat_natCast, y1, y2, y3, y6, y8, hw]
            exact ⟨pre ++ [x], by rw [hp]; simp, .slots (by simp +contextual only [go_sem, ↓reduceIte, Nat.reduceEqDiff, Nat.reduceAdd, Nat.reduceLeDiff, Nat.reduceLT, reduceCtorEq])⟩
        · have d4 : ((e.toNat : Int) != 0) = true := bne_iff_ne.2 (by omega)
          simp +contextual only [go_sem, ↓reduceIte, Nat.reduceEqDiff, Nat.reduceAdd, Nat.reduceLeDiff, Nat.reduceLT, reduceCtorEq, k72, hR, hc0, hchk, List.length_map, d1, d2, d3, d4, d6, hLe, w1, t1, hBl, q1, Int.natCast_nonneg, Int.toNat_natCast, List.getElem?_map, Option.map_some, Option.map_none, Nat.zero_le, List.drop_zero]
          refine TriI.loopL hg k72 B (fun i (pre : List UInt8) => ⟨slotsL [(0, .ref r 0 0), (3, .sc (.int .i64 (ds.length : Int))), (5, .sc (.int .u64 (val7 pre : Nat))), (69, .slice 1 (B.map Cod.enc)), (70, .sc (.int .i64 (B.length : Int))), (71, .sc (.int .i64 i))], H0, n⟩) (fun xs pre => B = pre ++ xs) [] (.slots ?_) rfl ?_ ?_
          · simp +contextual only [go_sem, ↓reduceIte, Nat.reduceEqDiff, Nat.reduceAdd, Nat.reduceLeDiff, Nat.reduceLT, reduceCtorEq, val7, hBl]
            rfl
          · intro pre hp
            rw [List.append_nil] at hp
            subst hp
            rw [sv, Int.toNat_natCast]
            have x1 : 2 * M / 2 = M := by omega
            have x2 : andI .u64 ((2 * M : Nat) : Int) 1 = ((0 : Nat) : Int) := by rw [and1_u64 (by omega)]; congr 1; omega
            have x3 : IntKind.i64.wrap ((M : Nat) : Int) = M := by rw [IntKind.wrap_i64]; omega
            have x4 : IntKind.i64.wrap ((0 : Nat) : Int) = 0 := rfl
            have x5 : IntKind.i64.wrap (0 - (0 : Int)) = 0 := rfl
            have x6 : xorI .i64 ((M : Nat) : Int) 0 = M := xor0_i64 (by omega)
            simp +contextual only [go_sem, ↓reduceIte, Nat.reduceEqDiff, Nat.reduceAdd, Nat.reduceLeDiff, Nat.reduceLT, reduceCtorEq, k72, Int.lt_irrefl, decide_false, hR, hc0, w1, t2, q1, List.length_map, Nat.le_refl, List.take_length, Int.natCast_nonneg, Int.toNat_natCast, Option.map_some, Option.map_none, x1, x2, x3, x4, x5, x6]
            exact hk _ _ (by omega)
          · intro i pre x xs hd hlt hx hp
            have hpi := drop_pre hd hp
            have hx7 : x.toNat < 256 := x.toNat_lt
            have hi7 : i ≤ 7 := by omega
            have hw := wrap_nat hlt (by omega)
            have y1 : andI .u8 (x.toNat : Int) 127 = ((x.toNat % 128 : Nat) : Int) := and127_u8 hx7
            have y2 : IntKind.u64.wrap ((x.toNat % 128 : Nat) : Int) = ((x.toNat % 128 : Nat) : Int) := wrap_u64n (by omega)
            have y3 : IntKind.i64.wrap (7 * (i : Int)) = ((7 * i : Nat) : Int) := by rw [IntKind.wrap_i64]; omega
            have y4 : (128 : Nat) ^ i = 2 ^ (7 * i) := by rw [Nat.pow_mul]
            have y5 : (2 : Nat) ^ (7 * i) ≤ 2 ^ 49 := Nat.pow_le_pow_right (by decide) (by omega)
            have y6 : x.toNat % 128 * 2 ^ min (7 * i) 64 % 18446744073709551616 = x.toNat % 128 * 2 ^ (7 * i) := by
              rw [Nat.min_eq_left (by omega)]
              have : x.toNat % 128 * 2 ^ (7 * i) ≤ 127 * 2 ^ 49 := Nat.mul_le_mul (by omega) y5
              omega
            have y7 := val7_lt pre
            rw [← hpi, y4] at y7
            have y9 : x.toNat % 128 * 2 ^ (7 * i) ≤ 127 * 2 ^ 49 := Nat.mul_le_mul (by omega) y5
            have y8 : orI .u64 (val7 pre : Nat) ((x.toNat % 128 * 2 ^ (7 * i) : Nat) : Int) = ((val7 (pre ++ [x]) : Nat) : Int) := by
              rw [or_u64 _ _ (by omega) (by omega), val7_app, ← hpi, y4]
              congr 1
              rw [← Nat.shiftLeft_eq, or_shift y7, Nat.shiftLeft_eq]
            simp +contextual only [go_sem, ↓reduceIte, Nat.reduceEqDiff, Nat.reduceAdd, Nat.reduceLeDiff, Nat.reduceLT, reduceCtorEq, k72, lt_dec hlt, hx, List.getElem?_map, Option.map_some, Int.natCast_nonneg, Int.toNat_natCast, y1, y2, y3, y6, y8, hw]
            exact ⟨pre ++ [x], by rw [hp]; simp, .slots (by simp +contextual only [go_sem, ↓reduceIte, Nat.reduceEqDiff, Nat.reduceAdd, Nat.reduceLeDiff, Nat.reduceLT, reduceCtorEq])⟩
end Go.Proofs.YteocedfakgdckaaDoor
