/- Amounts: strings; currencies; the text of amounts in the reference. -/
import Derived.Test.YtfmeplnoikfndaaDoorMon03e
import Derived.Test.YtfmeplnoikfndaaDoorMon03f
namespace Go.Proofs.YtfmeplnoikfndaaDoor
set_option linter.all false
open Go.Idl
set_option linter.all false
set_option maxHeartbeats 8000000
set_option maxRecDepth 100000
attribute [local go_sem] Tryd.underlying3 Tryd.underlying45 Tryd.underlying74 Tryd.underlying5 Tryd.underlying9 Tryd.underlying4 Tryd.underlying22
def bs (l : List UInt8) : ByteArray := ⟨l.toArray⟩
theorem bs_data (l : List UInt8) : (bs l).data.toList = l := rfl
theorem bs_of (s : ByteArray) : bs s.data.toList = s := rfl
theorem bs_size (l : List UInt8) : (bs l).size = l.length := by simp [bs, ByteArray.size]
theorem bs_app (a b : List UInt8) : bs a ++ bs b = bs (a ++ b) := by
  apply ByteArray.ext
  simp [bs]
theorem bs_inj {a b : List UInt8} : bs a = bs b ↔ a = b := by
  constructor
  · intro h; have := congrArg (fun s => s.data.toList) h; simpa [bs] using this
  · rintro rfl; rfl
theorem bs_cut (l : List UInt8) (i j : Nat) : (bs l).extract i j = bs ((l.take j).drop i) := by
  apply ByteArray.ext
  simp [bs, List.drop_take]
theorem strOf_data (l : List Int) : (strOf l).data.toList = l.map fun n => UInt8.ofNat n.toNat := by
  have hd : ∀ (l : List Int) (r : ByteArray), (l.foldl (fun r n => r.push (UInt8.ofNat n.toNat)) r).data.toList = r.data.toList ++ l.map fun n => UInt8.ofNat n.toNat := by
    intro l
    induction l with
    | nil => intro r; simp
    | cons n l ih => intro r; rw [List.foldl_cons, ih]; simp [ByteArray.push]
  unfold strOf
  rw [hd]
  simp
theorem strOf_bs (l : List UInt8) : strOf (l.map fun b => (b.toNat : Int)) = bs l := by
  rw [← bs_of (strOf _), strOf_data, List.map_map]
  congr 1
  conv => rhs; rw [← List.map_id l]
  apply List.map_congr_left
  intro b _
  simp
section
variable {P : Program} {Φ : Specs} {τ : Nat → V} {H : Heap} {n : Nat}
def cutAt (s : ByteArray) (l h : Int) (e : Option (V × List (Nat × Idl.Obj))) : Option (V × List (Nat × Idl.Obj)) :=
  if 0 ≤ l ∧ l ≤ h ∧ h ≤ s.size then some (.sc (.string (s.extract l.toNat h.toNat)), []) else e
@[congr] theorem cutAt_congr {s s' : ByteArray} {l l' h h' : Int} {e : Option (V × List (Nat × Idl.Obj))} (h1 : s = s') (h2 : l = l') (h3 : h = h') : cutAt s l h e = cutAt s' l' h' e := by rw [h1, h2, h3]
@[go_sem] theorem cutAt_in {s : ByteArray} {l h : Int} {e : Option (V × List (Nat × Idl.Obj))} (h1 : 0 ≤ l) (h2 : l ≤ h) (h3 : h ≤ s.size) : cutAt s l h e = some (.sc (.string (s.extract l.toNat h.toNat)), []) := by
  unfold cutAt; rw [if_pos ⟨h1, h2, h3⟩]
theorem cut_lo {t : TypeId} (h : P.underlying t = some .string) {ρ : Operand → V} {x y : Operand} {ty : Nat} {s : ByteArray} {k : IntKind} {j : Int} (hx : ρ x = .sc (.string s)) (hy : ρ y = .sc (.int k j)) :
    evPure P ρ (pu (.slice t x (some y) none none) ty) = cutAt s j s.size (evPure P ρ (pu (.slice t x (some y) none none) ty)) := by
  by_cases hj : 0 ≤ j ∧ j ≤ s.size
  · rw [cutAt_in hj.1 hj.2 (Int.le_refl _)]
    refine evPure_of (v := .string (s.extract j.toNat s.size)) ?_ (by simp [pu]) ?_
    · simp [pu, Op.operands, hx, hy, V.conc]
    · simp [pu, execOp, hx, hy, V.conc, runPure_bind, runPure_pure, runPure_underlying h, Instr.sliceAt, Instr.slice, Instr.sliceBounds, Instr.sliceBound, asIntOf, hj.1, hj.2]
  · unfold cutAt; rw [if_neg (fun hh => hj ⟨hh.1, hh.2.1⟩)]
theorem cut_hi {t : TypeId} (h : P.underlying t = some .string) {ρ : Operand → V} {x y : Operand} {ty : Nat} {s : ByteArray} {k : IntKind} {j : Int} (hx : ρ x = .sc (.string s)) (hy : ρ y = .sc (.int k j)) :
    evPure P ρ (pu (.slice t x none (some y) none) ty) = cutAt s 0 j (evPure P ρ (pu (.slice t x none (some y) none) ty)) := by
  by_cases hj : 0 ≤ j ∧ j ≤ s.size
  · rw [cutAt_in (Int.le_refl _) hj.1 hj.2]
    refine evPure_of (v := .string (s.extract 0 j.toNat)) ?_ (by simp [pu]) ?_
    · simp [pu, Op.operands, hx, hy, V.conc]
    · simp [pu, execOp, hx, hy, V.conc, runPure_bind, runPure_pure, runPure_underlying h, Instr.sliceAt, Instr.slice, Instr.sliceBounds, Instr.sliceBound, asIntOf, hj.1, hj.2]
  · unfold cutAt; rw [if_neg (fun hh => hj ⟨hh.2.1, hh.2.2⟩)]
@[go_sem ↓] theorem ev_cut_tt {t : TypeId} (h : P.underlying t = some .string) (a b ty : Nat) :
    evIO P Φ n τ H (.sls (.t a) (pu (.slice t (.tmp a) (some (.tmp b)) none none) ty)) = onStr (fun s => onInt (fun _ j => cutAt s j s.size (evStuck P Φ n τ H (.sls (.t a) (pu (.slice t (.tmp a) (some (.tmp b)) none none) ty)))) (evStuck P Φ n τ H (.sls (.t a) (pu (.slice t (.tmp a) (some (.tmp b)) none none) ty))) (τ b)) (evStuck P Φ n τ H (.sls (.t a) (pu (.slice t (.tmp a) (some (.tmp b)) none none) ty))) (τ a) := by
  unfold onStr
  split
  · rename_i s hs
    unfold onInt
    split
    · rename_i k j hj
      have := cut_lo (P := P) h (ρ := opd τ) (x := .tmp a) (y := .tmp b) (ty := ty) hs hj
      simp only [evStuck, evIO, A.get, hs]
      exact this
    · rfl
  · rfl
@[go_sem ↓] theorem ev_cut_tk {t : TypeId} (h : P.underlying t = some .string) (a ty : Nat) (k : IntKind) (j : Int) :
    evIO P Φ n τ H (.sls (.t a) (pu (.slice t (.tmp a) (some (.const (.int k j))) none none) ty)) = onStr (fun s => cutAt s j s.size (evStuck P Φ n τ H (.sls (.t a) (pu (.slice t (.tmp a) (some (.const (.int k j))) none none) ty)))) (evStuck P Φ n τ H (.sls (.t a) (pu (.slice t (.tmp a) (some (.const (.int k j))) none none) ty))) (τ a) := by
  unfold onStr
  split
  · rename_i s hs
    have := cut_lo (P := P) h (ρ := opd τ) (x := .tmp a) (y := .const (.int k j)) (ty := ty) hs rfl
    simp only [evStuck, evIO, A.get, hs]
    exact this
  · rfl
@[go_sem ↓] theorem ev_cut_ht {t : TypeId} (h : P.underlying t = some .string) (a b ty : Nat) :
    evIO P Φ n τ H (.sls (.t a) (pu (.slice t (.tmp a) none (some (.tmp b)) none) ty)) = onStr (fun s => onInt (fun _ j => cutAt s 0 j (evStuck P Φ n τ H (.sls (.t a) (pu (.slice t (.tmp a) none (some (.tmp b)) none) ty)))) (evStuck P Φ n τ H (.sls (.t a) (pu (.slice t (.tmp a) none (some (.tmp b)) none) ty))) (τ b)) (evStuck P Φ n τ H (.sls (.t a) (pu (.slice t (.tmp a) none (some (.tmp b)) none) ty))) (τ a) := by
  unfold onStr
  split
  · rename_i s hs
    unfold onInt
    split
    · rename_i k j hj
      have := cut_hi (P := P) h (ρ := opd τ) (x := .tmp a) (y := .tmp b) (ty := ty) hs hj
      simp only [evStuck, evIO, A.get, hs]
      exact this
    · rfl
  · rfl
end
def capC (b : UInt8) : Bool := decide (65 ≤ b.toNat) && decide (b.toNat ≤ 90)
theorem capC_eq (b : UInt8) : capC b = !(decide (((b.toNat : Nat) : Int) < 65) || decide (((b.toNat : Nat) : Int) > 90)) := by
  rw [Bool.eq_iff_iff]; simp [capC]; omega
theorem curOk_eq (c : List UInt8) : curOk c = (c.all capC && decide (c.length = 3)) := rfl
abbrev SCur : List V → Option V := FT fun (t : ByteArray × Unit) => if t.1.size ≤ 9223372036854775807 then some (curOk t.1.data.toList) else none
theorem con39 {Φ : Specs} (hg : Idl.Good Tryd.prog Φ) : Contract Tryd.prog 39 SCur := by
  refine conT hg k39 ic39 (by decide) fun C t r h => ?_
  obtain ⟨s, u⟩ := t
  dsimp only at h
  split at h
  case isFalse => cases h
  rename_i hl
  cases h
  simp +contextual only [go_sem, ↓reduceIte, Nat.reduceEqDiff, Nat.reduceAdd, Nat.reduceLeDiff, Nat.reduceLT, reduceCtorEq, c39, k39]
  refine ⟨fun h => ?_, fun h => ?_⟩
  · have : ¬ s.data.toList.length = 3 := by rw [bytes_len]; simp at h; omega
    rw [curOk_eq, decide_eq_false this, Bool.and_false]
  · have h3 : s.size = 3 := by simp at h; omega
    refine TriI.loopL hg k39 s.data.toList (fun i (_ : Unit) => ⟨slotsL [(0, .sc (.string s)), (7, .sc (.int .i64 i))], objsL [], 0⟩) (fun xs _ => xs.all capC = s.data.toList.all capC) () (.back rfl ?_) rfl ?_ ?_
    · simp +contextual only [go_sem, ↓reduceIte, Nat.reduceEqDiff, Nat.reduceAdd, Nat.reduceLeDiff, Nat.reduceLT, reduceCtorEq]
      rfl
    · intro _ hinv
      have e : decide ((s.data.toList.length : Int) < 3) = false := by rw [bytes_len, h3]; rfl
      simp +contextual only [go_sem, ↓reduceIte, Nat.reduceEqDiff, Nat.reduceAdd, Nat.reduceLeDiff, Nat.reduceLT, reduceCtorEq, k39, e]
      rw [curOk_eq, ← hinv, bytes_len, h3]; rfl
    · intro i _ b xs hd hlt hx hinv
      rw [bytes_len] at hlt
      have hw := wrap_nat hlt (by omega)
      have e : decide ((i : Int) < 3) = true := by simp; omega
      simp +contextual only [go_sem, ↓reduceIte, Nat.reduceEqDiff, Nat.reduceAdd, Nat.reduceLeDiff, Nat.reduceLT, reduceCtorEq, k39, e, hlt, bytes_get hx, Int.natCast_nonneg, Int.toNat_natCast]
      refine ⟨fun h => ?_, fun h => ⟨(), ?_, .back rfl ?_⟩⟩
      · rw [curOk_eq, ← hinv, List.all_cons, capC_eq, h]; simp
      · dsimp only; rw [← hinv, List.all_cons, capC_eq, h]; rfl
      · simp +contextual only [go_sem, ↓reduceIte, Nat.reduceEqDiff, Nat.reduceAdd, Nat.reduceLeDiff, Nat.reduceLT, reduceCtorEq, hw]
theorem con41 {Φ : Specs} (hg : Idl.Good Tryd.prog Φ) : Contract Tryd.prog 41 SCur := by
  refine conT hg k41 ic41 (by decide) fun C t r h => ?_
  obtain ⟨s, u⟩ := t
  dsimp only at h
  split at h
  case isFalse => cases h
  rename_i hl
  cases h
  simp +contextual only [go_sem, ↓reduceIte, Nat.reduceEqDiff, Nat.reduceAdd, Nat.reduceLeDiff, Nat.reduceLT, reduceCtorEq, c41, k41]
  refine TriI.loopL hg k41 s.data.toList (fun i (_ : Unit) => ⟨slotsL [(0, .sc (.string s)), (3, .sc (.int .i64 i))], objsL [], 0⟩) (fun xs _ => xs.all capC = s.data.toList.all capC) () (.back rfl ?_) rfl ?_ ?_
  · simp +contextual only [go_sem, ↓reduceIte, Nat.reduceEqDiff, Nat.reduceAdd, Nat.reduceLeDiff, Nat.reduceLT, reduceCtorEq]
    rfl
  · intro _ hinv
    simp +contextual only [go_sem, ↓reduceIte, Nat.reduceEqDiff, Nat.reduceAdd, Nat.reduceLeDiff, Nat.reduceLT, reduceCtorEq, k41, bytes_len, Int.lt_irrefl, decide_false]
    have e : ((s.size : Int) == 3) = decide (s.data.toList.length = 3) := by rw [bytes_len, Bool.eq_iff_iff]; simp; omega
    rw [curOk_eq, ← hinv, e]; rfl
  · intro i _ b xs hd hlt hx hinv
    rw [bytes_len] at hlt
    have hw := wrap_nat hlt (by omega)
    simp +contextual only [go_sem, ↓reduceIte, Nat.reduceEqDiff, Nat.reduceAdd, Nat.reduceLeDiff, Nat.reduceLT, reduceCtorEq, k41, lt_dec hlt, hlt, bytes_get hx, Int.natCast_nonneg, Int.toNat_natCast]
    refine ⟨fun h => ?_, fun h => ⟨(), ?_, .back rfl ?_⟩⟩
    · rw [curOk_eq, ← hinv, List.all_cons, capC_eq, h]; simp
    · dsimp only; rw [← hinv, List.all_cons, capC_eq, h]; rfl
    · simp +contextual only [go_sem, ↓reduceIte, Nat.reduceEqDiff, Nat.reduceAdd, Nat.reduceLeDiff, Nat.reduceLT, reduceCtorEq, hw]
theorem news_whole {H : Heap} {id len : Nat} {ys : List V} {mu : Bool} (hH : H id = .live 1 ys mu) (hl : ys.length = len) : news H 1 (.own id 0 len) = some ys := by
  rw [news_own, hH, elemsO_live, if_pos ⟨rfl, by omega⟩, List.drop_zero, List.take_of_length_le (by omega)]
theorem dgt_str {d : Nat} (h : d < 10) : strOf [((48 + d : Nat) : Int)] = bs [dgt d] := by
  have := strOf_bs [dgt d]
  rw [List.map_cons, List.map_nil, dgt_nat h] at this
  exact this
theorem w_dgt {d : Nat} (h : d < 10) : IntKind.u64.wrap (48 + (d : Int)) = ((48 + d : Nat) : Int) ∧ IntKind.u8.wrap ((48 + d : Nat) : Int) = ((48 + d : Nat) : Int) := by
  rw [IntKind.wrap_u64, IntKind.wrap_u8]; omega
open Go.Lib in
theorem dec_step (n : Nat) : decDigits n = if n < 10 then [dgt n] else decDigits (n / 10) ++ [dgt (n % 10)] := by
  rw [decDigits]
  split <;> rfl
open Go.Lib in
theorem dec_len20 {n : Nat} (h : n < 18446744073709551616) : (decDigits n).length ≤ 20 := dec_len2 19 n (by omega)
open Go.Lib in
abbrev SDig : List V → Option V := FT fun (t : U64 × Unit) => if inU t.1 then some (bs (decDigits t.1.n)) else none
open Go.Lib in
theorem con42 {Φ : Specs} (hg : Idl.Good Tryd.prog Φ) : Contract Tryd.prog 42 SDig := by
  refine conT hg k42 ic42 (by decide) fun C t r h => ?_
  obtain ⟨⟨N⟩, u⟩ := t
  dsimp only at h
  split at h
  case isFalse => cases h
  rename_i hn
  cases h
  replace hn : N < 18446744073709551616 := hn
  simp +contextual only [go_sem, ↓reduceIte, Nat.reduceEqDiff, Nat.reduceAdd, Nat.reduceLeDiff, Nat.reduceLT, reduceCtorEq, c42, k42]
  refine TriI.loopA hg k42 (fun p : Nat × List UInt8 => ⟨slotsL [(0, .sc (.int .u64 (p.1 : Nat))), (3, .sc (.string (bs p.2)))], objsL [], 0⟩) (fun p => p.1 < 18446744073709551616 ∧ decDigits N = decDigits p.1 ++ p.2) (fun p => p.1) (N, []) (.back rfl ?_) ⟨hn, by simp⟩ ?_
  · simp +contextual only [go_sem, ↓reduceIte, Nat.reduceEqDiff, Nat.reduceAdd, Nat.reduceLeDiff, Nat.reduceLT, reduceCtorEq]
    rfl
  · rintro ⟨n, acc⟩ ⟨h1, h2⟩
    dsimp only at h1 h2 ⊢
    have hlen := dec_len20 hn
    rw [h2, List.length_append] at hlen
    have hd1 := dec_len n
    by_cases h9 : n < 10
    · have d1 : decide ((n : Int) > 9) = false := by simp; omega
      obtain ⟨w1, w2⟩ := w_dgt h9
      simp +contextual only [go_sem, ↓reduceIte, Nat.reduceEqDiff, Nat.reduceAdd, Nat.reduceLeDiff, Nat.reduceLT, reduceCtorEq, k42, d1, w1, w2]
      refine stepI_bytes (e := 5) Tryd.underlying67 Tryd.underlying5 Tryd.underlying9 rfl (by exact news_whole rfl rfl) (show bytV [V.sc (.int .u8 ((48 + n : Nat) : Int))] = some [((48 + n : Nat) : Int)] from rfl) (conv_none rfl) ?_
      have hsz : (((bs [dgt n]).size + (bs acc).size : Nat) : Int) ≤ IntKind.i64.max := by
        rw [bs_size, bs_size]
        have : IntKind.i64.max = 9223372036854775807 := rfl
        simp only [List.length_singleton]
        omega
      rw [dgt_str h9]
      simp +contextual only [go_sem, ↓reduceIte, Nat.reduceEqDiff, Nat.reduceAdd, Nat.reduceLeDiff, Nat.reduceLT, reduceCtorEq, k42, hsz, bs_app]
      rw [h2, dec_step, if_pos h9]
      rfl
    · have d1 : decide ((n : Int) > 9) = true := by simp; omega
      have hm : n % 10 < 10 := by omega
      obtain ⟨w1, w2⟩ := w_dgt hm
      have e1 : n / 10 % 18446744073709551616 = n / 10 := by omega
      simp +contextual only [go_sem, ↓reduceIte, Nat.reduceEqDiff, Nat.reduceAdd, Nat.reduceLeDiff, Nat.reduceLT, reduceCtorEq, k42, d1, w1, w2]
      refine stepI_bytes (e := 5) Tryd.underlying67 Tryd.underlying5 Tryd.underlying9 rfl (by exact news_whole rfl rfl) (show bytV [V.sc (.int .u8 ((48 + n % 10 : Nat) : Int))] = some [((48 + n % 10 : Nat) : Int)] from rfl) (conv_none rfl) ?_
      have hsz : (((bs [dgt (n % 10)]).size + (bs acc).size : Nat) : Int) ≤ IntKind.i64.max := by
        rw [bs_size, bs_size]
        have : IntKind.i64.max = 9223372036854775807 := rfl
        simp only [List.length_singleton]
        omega
      rw [dgt_str hm]
      simp +contextual only [go_sem, ↓reduceIte, Nat.reduceEqDiff, Nat.reduceAdd, Nat.reduceLeDiff, Nat.reduceLT, reduceCtorEq, k42, hsz, bs_app, e1]
      refine ⟨(n / 10, [dgt (n % 10)] ++ acc), by dsimp only; omega, ⟨by dsimp only; omega, ?_⟩, .back rfl ?_⟩
      · rw [h2, dec_step n, if_neg h9, List.append_assoc]
      · simp +contextual only [go_sem, ↓reduceIte, Nat.reduceEqDiff, Nat.reduceAdd, Nat.reduceLeDiff, Nat.reduceLT, reduceCtorEq]
end Go.Proofs.YtfmeplnoikfndaaDoor
