/- The text of amounts (plain). -/
import Derived.Lib.ItoaNum
import Derived.Lib.AtoiAll
import Derived.Lib.ParseIntBTie
namespace Go.Proofs.YtfmeplnoikfndaaDoor
set_option linter.all false
set_option linter.all false
open Go.Lib
def dgt (k : Nat) : UInt8 := UInt8.ofNat (48 + k)
theorem dgt_nat {k : Nat} (h : k < 10) : (dgt k).toNat = 48 + k := by
  unfold dgt; rw [UInt8.toNat_ofNat']; omega
def fmtM (u : Nat) : List UInt8 := decDigits (u / 1000) ++ [46, dgt (u % 1000 / 100), dgt (u % 1000 / 10 % 10), dgt (u % 1000 % 10)]
def sgn (n : Int) : List UInt8 := if n < 0 then [45] else []
def fmtL (n : Int) (c : List UInt8) : List UInt8 := sgn n ++ (fmtM n.natAbs ++ 32 :: c)
theorem dec_ne (u : Nat) : ∃ c l, decDigits u = c :: l ∧ 48 ≤ c.toNat ∧ c.toNat ≤ 57 := by
  induction u using Nat.strongRecOn with
  | _ u ih =>
    rw [decDigits]
    by_cases h : u < 10
    · have := dgt_nat h
      unfold dgt at this
      rw [dif_pos h]; exact ⟨_, [], rfl, by omega, by omega⟩
    · obtain ⟨c, l, h1, h2, h3⟩ := ih (u / 10) (by omega)
      rw [dif_neg h, h1]; exact ⟨c, l ++ _, rfl, h2, h3⟩
theorem dec_len (u : Nat) : 1 ≤ (decDigits u).length := by
  obtain ⟨c, l, h, _⟩ := dec_ne u
  rw [h]; simp
theorem dec_len2 : ∀ (k u : Nat), u < 10 ^ (k + 1) → (decDigits u).length ≤ k + 1
  | 0, u, h => by rw [decDigits, dif_pos (by omega)]; simp
  | k + 1, u, h => by
    rw [decDigits]
    by_cases h1 : u < 10
    · rw [dif_pos h1]; simp
    · have := dec_len2 k (u / 10) (by rw [Nat.pow_succ] at h; omega)
      rw [dif_neg h1]; simp; omega
theorem pu_step {acc d : Nat} (hd : d < 10) (h : acc * 10 + d < 18446744073709551616) (r : List UInt8) : parseUint10 acc (dgt d :: r) = parseUint10 (acc * 10 + d) r := by
  have h1 := dgt_nat hd
  rw [parseUint10, h1, if_pos (by omega), if_neg (by omega), if_neg (by omega), show 48 + d - 48 = d by omega]
theorem pu_dec (u : Nat) (h : u < 18446744073709551616) (r : List UInt8) : parseUint10 0 (decDigits u ++ r) = parseUint10 u r := by
  induction u using Nat.strongRecOn generalizing r with
  | _ u ih =>
    rw [decDigits]
    by_cases h1 : u < 10
    · rw [dif_pos h1]
      show parseUint10 0 (dgt u :: r) = _
      rw [pu_step h1 (by omega)]; simp
    · rw [dif_neg h1, List.append_assoc, ih (u / 10) (by omega) (by omega)]
      show parseUint10 _ (dgt (u % 10) :: r) = _
      rw [pu_step (by omega) (by omega), show u / 10 * 10 + u % 10 = u by omega]
theorem pu_num {u : Nat} (h : u < 18446744073709551616) : parseUint10 0 (decDigits (u / 1000) ++ [dgt (u % 1000 / 100), dgt (u % 1000 / 10 % 10), dgt (u % 1000 % 10)]) = .ok u := by
  rw [pu_dec _ (by omega), pu_step (by omega) (by omega), pu_step (by omega) (by omega), pu_step (by omega) (by omega), parseUint10]
  congr 1; omega
theorem at_num {n : Int} (h0 : -9223372036854775808 ≤ n) (h1 : n ≤ 9223372036854775807) :
    parseIntB 64 (sgn n ++ (decDigits (n.natAbs / 1000) ++ [dgt (n.natAbs % 1000 / 100), dgt (n.natAbs % 1000 / 10 % 10), dgt (n.natAbs % 1000 % 10)])) = .ok n := by
  rw [parseIntB_64]
  have hu := pu_num (u := n.natAbs) (by omega)
  obtain ⟨c, l, e, h2, h3⟩ := dec_ne (n.natAbs / 1000)
  unfold sgn
  by_cases hn : n < 0
  · rw [if_pos hn]
    have hm : parseMag (decDigits (n.natAbs / 1000) ++ [dgt (n.natAbs % 1000 / 100), dgt (n.natAbs % 1000 / 10 % 10), dgt (n.natAbs % 1000 % 10)]) = .ok n.natAbs := by
      rw [parseMag, if_neg (by rw [e]; simp), hu]
    rw [List.cons_append, List.nil_append]
    have e45 : (45 : UInt8).toNat = 45 := rfl
    simp only [atoiAll, e45, or_true, if_true, List.nil_append, hm, not_true, false_and, if_false, true_and]
    rw [if_neg (by omega)]
    congr 1; omega
  · rw [if_neg hn, List.nil_append]
    rw [e] at hu ⊢
    have hm : parseMag (c :: l ++ [dgt (n.natAbs % 1000 / 100), dgt (n.natAbs % 1000 / 10 % 10), dgt (n.natAbs % 1000 % 10)]) = .ok n.natAbs := by
      rw [parseMag, if_neg (by simp), hu]
    rw [List.cons_append] at hm ⊢
    simp only [atoiAll]
    rw [if_neg (by omega), hm]
    have e1 : ¬ c.toNat = 45 := by omega
    simp only [e1, not_false_eq_true, true_and, false_and, if_false]
    rw [if_neg (by omega)]
    congr 1; omega
def curOk (c : List UInt8) : Bool := c.all (fun x => decide (65 ≤ x.toNat) && decide (x.toNat ≤ 90)) && decide (c.length = 3)
def digsP (l : List UInt8) : List UInt8 := (l.take (l.length - 4)).take (l.length - 8) ++ (l.take (l.length - 4)).drop (l.length - 7)
def parseP (l : List UInt8) : Int × List UInt8 × Int :=
  if l.length < 9 then (0, [], 5) else
  match parseIntB 64 (digsP l) with
  | .ok v => if curOk (l.drop (l.length - 3)) = true ∧ fmtL v (l.drop (l.length - 3)) = l then (v, l.drop (l.length - 3), 0) else (0, [], 5)
  | _ => (0, [], 5)
theorem fmt_len {n : Int} {c : List UInt8} (hc : curOk c = true) (h0 : -9223372036854775808 ≤ n) (h1 : n ≤ 9223372036854775807) : c.length = 3 ∧ (fmtL n c).length = (sgn n).length + (decDigits (n.natAbs / 1000)).length + 8 ∧ (decDigits (n.natAbs / 1000)).length ≤ 16 ∧ 1 ≤ (decDigits (n.natAbs / 1000)).length := by
  have h3 : c.length = 3 := by rw [curOk, Bool.and_eq_true, decide_eq_true_eq] at hc; exact hc.2
  refine ⟨h3, ?_, dec_len2 15 _ (by omega), dec_len _⟩
  rw [fmtL, fmtM]; simp [h3]; omega
theorem take_app {α : Type} {a b : List α} {k : Nat} (h : k = a.length) : (a ++ b).take k = a := by subst h; simp
theorem drop_app {α : Type} {a b : List α} {k : Nat} (h : k = a.length) : (a ++ b).drop k = b := by subst h; simp
theorem digs_fmt {n : Int} {c : List UInt8} (hc : curOk c = true) (h0 : -9223372036854775808 ≤ n) (h1 : n ≤ 9223372036854775807) :
    digsP (fmtL n c) = sgn n ++ (decDigits (n.natAbs / 1000) ++ [dgt (n.natAbs % 1000 / 100), dgt (n.natAbs % 1000 / 10 % 10), dgt (n.natAbs % 1000 % 10)]) ∧ (fmtL n c).drop ((fmtL n c).length - 3) = c := by
  obtain ⟨h3, hl, h4, h5⟩ := fmt_len hc h0 h1
  have e1 : fmtL n c = (sgn n ++ (decDigits (n.natAbs / 1000) ++ [46, dgt (n.natAbs % 1000 / 100), dgt (n.natAbs % 1000 / 10 % 10), dgt (n.natAbs % 1000 % 10)])) ++ 32 :: c := by
    rw [fmtL, fmtM]; simp only [List.append_assoc]
  have t1 : (fmtL n c).take ((fmtL n c).length - 4) = sgn n ++ (decDigits (n.natAbs / 1000) ++ [46, dgt (n.natAbs % 1000 / 100), dgt (n.natAbs % 1000 / 10 % 10), dgt (n.natAbs % 1000 % 10)]) := by
    rw [hl, e1]; exact take_app (by simp; omega)
  constructor
  · rw [digsP, t1, hl]
    have e2 : sgn n ++ (decDigits (n.natAbs / 1000) ++ [46, dgt (n.natAbs % 1000 / 100), dgt (n.natAbs % 1000 / 10 % 10), dgt (n.natAbs % 1000 % 10)]) = (sgn n ++ decDigits (n.natAbs / 1000)) ++ [46, dgt (n.natAbs % 1000 / 100), dgt (n.natAbs % 1000 / 10 % 10), dgt (n.natAbs % 1000 % 10)] := by rw [List.append_assoc]
    have e3 : sgn n ++ (decDigits (n.natAbs / 1000) ++ [46, dgt (n.natAbs % 1000 / 100), dgt (n.natAbs % 1000 / 10 % 10), dgt (n.natAbs % 1000 % 10)]) = (sgn n ++ (decDigits (n.natAbs / 1000) ++ [46])) ++ [dgt (n.natAbs % 1000 / 100), dgt (n.natAbs % 1000 / 10 % 10), dgt (n.natAbs % 1000 % 10)] := by simp
    have a1 : (sgn n ++ (decDigits (n.natAbs / 1000) ++ [46, dgt (n.natAbs % 1000 / 100), dgt (n.natAbs % 1000 / 10 % 10), dgt (n.natAbs % 1000 % 10)])).take ((sgn n).length + (decDigits (n.natAbs / 1000)).length + 8 - 8) = sgn n ++ decDigits (n.natAbs / 1000) := by
      rw [e2]; exact take_app (by simp)
    have a2 : (sgn n ++ (decDigits (n.natAbs / 1000) ++ [46, dgt (n.natAbs % 1000 / 100), dgt (n.natAbs % 1000 / 10 % 10), dgt (n.natAbs % 1000 % 10)])).drop ((sgn n).length + (decDigits (n.natAbs / 1000)).length + 8 - 7) = [dgt (n.natAbs % 1000 / 100), dgt (n.natAbs % 1000 / 10 % 10), dgt (n.natAbs % 1000 % 10)] := by
      rw [e3]; exact drop_app (by simp; omega)
    rw [a1, a2, List.append_assoc]
  · have e4 : fmtL n c = (sgn n ++ (fmtM n.natAbs ++ [32])) ++ c := by rw [fmtL]; simp
    rw [hl, e4]
    refine drop_app ?_
    rw [fmtM]; simp; omega
theorem parseP_fmt {n : Int} {c : List UInt8} (hc : curOk c = true) (h0 : -9223372036854775808 ≤ n) (h1 : n ≤ 9223372036854775807) : parseP (fmtL n c) = (n, c, 0) := by
  obtain ⟨h3, hl, h4, h5⟩ := fmt_len hc h0 h1
  obtain ⟨d1, d2⟩ := digs_fmt hc h0 h1
  rw [parseP, if_neg (by rw [hl]; omega), d1, at_num h0 h1, d2]
  simp [hc]
theorem parseP_ok {l : List UInt8} (h : parseP l ≠ (0, [], 5)) : ∃ n c, -9223372036854775808 ≤ n ∧ n ≤ 9223372036854775807 ∧ curOk c = true ∧ l = fmtL n c := by
  rw [parseP] at h
  split at h
  · exact absurd rfl h
  · split at h
    · rename_i v hv
      split at h
      · rename_i hh
        have := parseIntB_bounds hv
        exact ⟨v, _, by simp at this; omega, by simp at this; omega, hh.1, hh.2.symm⟩
      · exact absurd rfl h
    · exact absurd rfl h
def numI (m : Nat) : Nat → Nat → List UInt8 → Option Nat
  | _, acc, [] => some acc
  | i, acc, c :: l => if i = m then (if c = 46 then numI m (i + 1) acc l else none) else if 48 ≤ c.toNat ∧ c.toNat ≤ 57 then numI m (i + 1) ((10 * acc + (c.toNat - 48)) % 18446744073709551616) l else none
theorem numI_dgt {m i acc d : Nat} (hi : i ≠ m) (hd : d < 10) (h : acc * 10 + d < 18446744073709551616) (r : List UInt8) : numI m i acc (dgt d :: r) = numI m (i + 1) (acc * 10 + d) r := by
  have h1 := dgt_nat hd
  rw [numI, if_neg hi, h1, if_pos (by omega), show 48 + d - 48 = d by omega, Nat.mul_comm 10, Nat.mod_eq_of_lt h]
theorem numI_dec {m : Nat} (u : Nat) (h : u < 18446744073709551616) (r : List UInt8) (i : Nat) (hi : i + (decDigits u).length ≤ m) : numI m i 0 (decDigits u ++ r) = numI m (i + (decDigits u).length) u r := by
  induction u using Nat.strongRecOn generalizing r with
  | _ u ih =>
    rw [decDigits] at hi ⊢
    by_cases h1 : u < 10
    · rw [dif_pos h1] at hi ⊢
      simp only [List.length_cons, List.length_nil] at hi
      show numI m i 0 (dgt u :: r) = _
      rw [numI_dgt (by omega) h1 (by omega)]; simp
    · rw [dif_neg h1] at hi ⊢
      rw [List.length_append, List.length_cons, List.length_nil] at hi ⊢
      rw [List.append_assoc, ih (u / 10) (by omega) (by omega) _ (by omega)]
      show numI m _ _ (dgt (u % 10) :: r) = _
      rw [numI_dgt (by omega) (by omega) (by omega), show u / 10 * 10 + u % 10 = u by omega]
      rfl
def tailR (l : List UInt8) : List UInt8 := if l.head? = some 45 then l.drop 1 else l
def sgnR (l : List UInt8) (n : Nat) : Option Int := if l.head? = some 45 then (if n ≤ 9223372036854775808 then some (-(n : Int)) else none) else (if n < 9223372036854775808 then some (n : Int) else none)
def parseR (l : List UInt8) : Int × List UInt8 × Int :=
  if (tailR l).length < 9 ∨ (tailR l).length > 24 ∨ curOk ((tailR l).drop ((tailR l).length - 3)) = false then (0, [], 5) else
  match numI ((tailR l).length - 8) 0 0 ((tailR l).take ((tailR l).length - 4)) with
  | none => (0, [], 5)
  | some n => match sgnR l n with
    | none => (0, [], 5)
    | some v => if fmtL v ((tailR l).drop ((tailR l).length - 3)) = l then (v, (tailR l).drop ((tailR l).length - 3), 0) else (0, [], 5)
theorem tail_fmt (n : Int) (c : List UInt8) : tailR (fmtL n c) = fmtM n.natAbs ++ 32 :: c ∧ ((fmtL n c).head? = some 45 ↔ n < 0) := by
  unfold tailR fmtL sgn
  by_cases hn : n < 0
  · simp [hn]
  · obtain ⟨d, l, e, h2, h3⟩ := dec_ne (n.natAbs / 1000)
    have hd : d ≠ 45 := fun h => by subst h; exact absurd h2 (by decide)
    simp [hn, fmtM, e, hd]
theorem parseR_fmt {n : Int} {c : List UInt8} (hc : curOk c = true) (h0 : -9223372036854775808 ≤ n) (h1 : n ≤ 9223372036854775807) : parseR (fmtL n c) = (n, c, 0) := by
  obtain ⟨h3, _, h4, h5⟩ := fmt_len hc h0 h1
  obtain ⟨t1, t2⟩ := tail_fmt n c
  have hl : (fmtM n.natAbs ++ 32 :: c).length = (decDigits (n.natAbs / 1000)).length + 8 := by rw [fmtM]; simp [h3]
  have hd : (fmtM n.natAbs ++ 32 :: c).drop ((fmtM n.natAbs ++ 32 :: c).length - 3) = c := by
    rw [hl, show fmtM n.natAbs ++ 32 :: c = (fmtM n.natAbs ++ [32]) ++ c by simp]
    exact drop_app (by rw [fmtM]; simp)
  have ht : (fmtM n.natAbs ++ 32 :: c).take ((fmtM n.natAbs ++ 32 :: c).length - 4) = fmtM n.natAbs := by
    rw [hl]; exact take_app (by rw [fmtM]; simp)
  have hnum : numI ((fmtM n.natAbs ++ 32 :: c).length - 8) 0 0 (fmtM n.natAbs) = some n.natAbs := by
    rw [hl, fmtM, Nat.add_sub_cancel, numI_dec _ (by omega) _ 0 (by omega), Nat.zero_add]
    rw [numI, if_pos rfl, if_pos rfl, numI_dgt (by omega) (by omega) (by omega), numI_dgt (by omega) (by omega) (by omega), numI_dgt (by omega) (by omega) (by omega), numI]
    congr 1; omega
  have hs : sgnR (fmtL n c) n.natAbs = some n := by
    unfold sgnR
    by_cases hn : n < 0
    · rw [if_pos (t2.2 hn), if_pos (by omega)]; congr 1; omega
    · rw [if_neg (fun h => hn (t2.1 h)), if_pos (by omega)]; congr 1; omega
  rw [parseR, t1, hd, ht, if_neg, hnum]
  · simp only [hs]
    simp
  · rw [hl, hc]; simp; omega
theorem parseR_ok {l : List UInt8} (h : parseR l ≠ (0, [], 5)) : ∃ n c, -9223372036854775808 ≤ n ∧ n ≤ 9223372036854775807 ∧ curOk c = true ∧ l = fmtL n c := by
  rw [parseR] at h
  split at h
  · exact absurd rfl h
  · rename_i hh
    split at h
    · exact absurd rfl h
    · rename_i u hu
      split at h
      · exact absurd rfl h
      · rename_i v hv
        split at h
        · rename_i he
          refine ⟨v, _, ?_, ?_, ?_, he.symm⟩
          · unfold sgnR at hv
            split at hv <;> split at hv <;> cases hv <;> omega
          · unfold sgnR at hv
            split at hv <;> split at hv <;> cases hv <;> omega
          · cases hq : curOk ((tailR l).drop ((tailR l).length - 3)) with
            | true => rfl
            | false => exact absurd (.inr (.inr hq)) hh
        · exact absurd rfl h
theorem parse_eq (l : List UInt8) : parseP l = parseR l := by
  by_cases h : parseP l = (0, [], 5)
  · by_cases h2 : parseR l = (0, [], 5)
    · rw [h, h2]
    · obtain ⟨n, c, h0, h1, hc, rfl⟩ := parseR_ok h2
      rw [parseP_fmt hc h0 h1, parseR_fmt hc h0 h1]
  · obtain ⟨n, c, h0, h1, hc, rfl⟩ := parseP_ok h
    rw [parseP_fmt hc h0 h1, parseR_fmt hc h0 h1]
end Go.Proofs.YtfmeplnoikfndaaDoor
