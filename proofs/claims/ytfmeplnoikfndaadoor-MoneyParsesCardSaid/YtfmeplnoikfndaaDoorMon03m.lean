/- Amounts: amounts as text, walked by the kit. -/
import Derived.Test.YtfmeplnoikfndaaDoorMon03k
namespace Go.Proofs.YtfmeplnoikfndaaDoor
set_option linter.all false
open Go.Idl Go.Lib Go.RowKit Go.Sort
set_option linter.all false
set_option maxHeartbeats 16000000
set_option maxRecDepth 100000
theorem fmt_no (n : Int) (c : ByteArray) (w : World) (hc : c.size ≤ 1000000) (hL : Laid.ok w) (hcur : curOk c.data.toList = false) :
    Calls Tryd.prog 21 #[.int .i64 n, .string c] w fun e w' => e = .returned (.tuple #[.string ⟨#[]⟩, .int .i64 21]) ∧ Below w.heap.size w w' := by
  have hcr := cur_run c w hc hL
  rw [hcur] at hcr
  go_enter Tryd.func21, Tryd.ntmps21
  go_wp2_with fail
  go_at_call 39
  refine hcr.mono ?_
  rintro e w1 ⟨rfl, hb⟩
  go_wp2
  go_ret2
  exact ⟨rfl, hb⟩
theorem tab03 {w : World} (h : Laid.ok w) : TabIs Tryd.prog w "internal/strconv.uint64pow10" .u64 pow10Tab := by
  have e : TabIs Tryd.prog w "internal/strconv.uint64pow10" .u64 pow10Tab = (w.var? Tryd.prog "internal/strconv.uint64pow10" = some powTab) := by
    unfold TabIs pow10Tab powTab
    rw [List.map_map]; rfl
  rw [e]; exact h.1
theorem app_run (B n u : Nat) (hu64 : u < 18446744073709551616) (sv : Value) (xs : List Value) (w : World) (hown : w.ownsRow B 5 1 sv n xs) (hBw : B ≤ w.heap.size) (hlim : n ≤ 1000) (hL : Laid.ok w) :
    Calls Tryd.prog 46 #[sv, .int .u64 u, .int .i64 10] w fun e w' => ∃ v', e = .returned v' ∧ w'.ownsRow B 5 1 v' (n + (decDigits u).length) (xs ++ byteCells (decDigits u)) ∧ Below B w w' := by
  refine (Any.internal_strconv_AppendUint_10 Tryd.laysM288 B n u hu64 sv xs w hown hBw (by omega) (tab03 hL)).mono ?_
  rintro e w' ⟨v', h1, h2, h3, h4⟩
  exact ⟨v', h1, h2, h3⟩
theorem pub_run (B n u : Nat) (hu64 : u < 18446744073709551616) (sv : Value) (xs : List Value) (w : World) (hown : w.ownsRow B 5 1 sv n xs) (hBw : B ≤ w.heap.size) (hlim : n ≤ 1000) (hL : Laid.ok w) :
    Calls Tryd.prog 40 #[sv, .int .u64 u, .int .i64 10] w fun e w' => ∃ v', e = .returned v' ∧ w'.ownsRow B 5 1 v' (n + (decDigits u).length) (xs ++ byteCells (decDigits u)) ∧ Below B w w' := by
  have hr := app_run B n u hu64 sv xs w hown hBw hlim hL
  go_enter Tryd.func40, Tryd.ntmps40
  go_wp2_with fail
  go_at_call 46
  refine hr.mono ?_
  rintro e w' ⟨v', rfl, h1, h2⟩
  go_wp2
  go_ret
  exact ⟨v', rfl, h1, h2⟩
theorem own_string (w : World) (B : Nat) (v : Value) (l : List UInt8) (hl : l ≠ []) (h : w.ownsRow B 5 1 v l.length (byteCells l)) : (convert 67 9 v).run Tryd.prog w = .ok (.string (bs l)) w := by
  obtain ⟨h0, h | ⟨g, cap, cur, rfl, h1, h2, h3, h4, h5, h6⟩⟩ := h
  · exact absurd (List.eq_nil_of_length_eq_zero h.2) hl
  · refine run_convert_bytes_back w _ _ 5 ⟨g, 0, none⟩ cap l Tryd.underlying67 Tryd.underlying5 Tryd.underlying9 fun j hj => ?_
    rw [Nat.mul_one] at h6
    have e : (byteCells l)[j]? = some (Value.int .u8 (l[j].toNat : Int)) := by simp [byteCells, hj]
    rw [← h6, List.getElem?_take, if_pos hj, Array.getElem?_toList] at e
    rw [Lib.add_plain, Nat.zero_add]
    simp [World.cell?, h2, e]
theorem fin_cells {m : Nat} {n : Int} {c : ByteArray} {D : List UInt8} (hm : m = n.natAbs) (hD : D = decDigits (m / 1000)) (hcl : c.size = 3) :
    (byteCells D ++ Value.int .u8 46 :: Value.int .u8 (48 + (m : Int) % 1000 / 100) :: Value.int .u8 (48 + (m : Int) % 1000 / 10 % 10) :: Value.int .u8 (48 + (m : Int) % 10) :: Value.int .u8 32 :: strCells c) = byteCells (fmtM n.natAbs ++ 32 :: c.data.toList) ∧
    (fmtM n.natAbs ++ 32 :: c.data.toList).length = D.length + 1 + 4 + 3 := by
  have g1 : Value.int .u8 (48 + (m : Int) % 1000 / 100) = Value.int .u8 ((dgt (m % 1000 / 100)).toNat : Int) := by rw [dgt_nat (by omega)]; congr 1
  have g2 : Value.int .u8 (48 + (m : Int) % 1000 / 10 % 10) = Value.int .u8 ((dgt (m % 1000 / 10 % 10)).toNat : Int) := by rw [dgt_nat (by omega)]; congr 1
  have g3 : Value.int .u8 (48 + (m : Int) % 10) = Value.int .u8 ((dgt (m % 1000 % 10)).toNat : Int) := by rw [dgt_nat (by omega)]; congr 1; omega
  constructor
  · rw [g1, g2, g3, fmtM, ← hm, ← hD]
    unfold byteCells strCells
    rw [List.map_append, List.map_append]
    simp only [List.map_cons, List.map_nil, List.cons_append, List.nil_append, List.append_assoc]
    rfl
  · rw [fmtM, ← hm, ← hD]
    have : c.data.toList.length = 3 := hcl
    simp at this
    simp [this]
theorem own_fin {w : World} {B m : Nat} {n : Int} {v : Value} {c : ByteArray} {D : List UInt8} (hm : m = n.natAbs) (hD : D = decDigits (m / 1000)) (hcl : c.size = 3)
    (h : w.ownsRow B 5 1 v (D.length + 1 + 4 + 3) (byteCells D ++ Value.int .u8 46 :: Value.int .u8 (48 + (m : Int) % 1000 / 100) :: Value.int .u8 (48 + (m : Int) % 1000 / 10 % 10) :: Value.int .u8 (48 + (m : Int) % 10) :: Value.int .u8 32 :: strCells c)) :
    (convert 67 9 v).run Tryd.prog w = .ok (.string (bs (fmtM n.natAbs ++ 32 :: c.data.toList))) w := by
  obtain ⟨e, hl⟩ := fin_cells hm hD hcl
  rw [e, ← hl] at h
  exact own_string w B v _ (by rw [fmtM]; simp) h
theorem own_finN {w : World} {B m : Nat} {n : Int} {v : Value} {c : ByteArray} {D : List UInt8} (hm : m = n.natAbs) (hD : D = decDigits (m / 1000)) (hcl : c.size = 3)
    (h : w.ownsRow B 5 1 v (1 + D.length + 1 + 4 + 3) (Value.int .u8 45 :: (byteCells D ++ Value.int .u8 46 :: Value.int .u8 (48 + (m : Int) % 1000 / 100) :: Value.int .u8 (48 + (m : Int) % 1000 / 10 % 10) :: Value.int .u8 (48 + (m : Int) % 10) :: Value.int .u8 32 :: strCells c))) :
    (convert 67 9 v).run Tryd.prog w = .ok (.string (bs (45 :: (fmtM n.natAbs ++ 32 :: c.data.toList)))) w := by
  obtain ⟨e, hl⟩ := fin_cells hm hD hcl
  rw [e] at h
  refine own_string w B v _ (by simp) ?_
  have : (45 :: (fmtM n.natAbs ++ 32 :: c.data.toList)).length = 1 + D.length + 1 + 4 + 3 := by rw [List.length_cons, hl]; omega
  rw [this]
  exact h
theorem fmt_pos (n : Int) (c : ByteArray) (w : World) (hn : inI n) (hc : c.size ≤ 1000000) (hL : Laid.ok w) (hcur : curOk c.data.toList = true) (hneg : ¬ n < 0) :
    Calls Tryd.prog 21 #[.int .i64 n, .string c] w fun e w' => e = .returned (.tuple #[.string (bs (fmtL n c.data.toList)), .int .i64 0]) ∧ Below w.heap.size w w' := by
  have hcr := cur_run c w hc hL
  rw [hcur] at hcr
  obtain ⟨m, HM⟩ : ∃ m, Hid (m = n.natAbs) := ⟨_, Lib.hid rfl⟩
  have hm64 : m < 18446744073709551616 := by have := HM.out; unfold inI at hn; omega
  have d0 : decide (n < 0) = false := decide_eq_false hneg
  have hq : IntKind.u64.wrap ((m : Int) / 1000) = ((m / 1000 : Nat) : Int) := by rw [IntKind.wrap_u64]; omega
  obtain ⟨i0, hi, hz0, hz1, hz2⟩ := info_parts Tryd.laysM288.i5
  replace hi : Tryd.prog.info? 5 = some i0 := hi
  have hDl := dec_len20 (n := m / 1000) (by omega)
  have hcl : c.size = 3 := cur_len hcur
  have hpub := fun (B n : Nat) (sv : Value) (xs : List Value) (w : World) => pub_run B n (m / 1000) (by omega) sv xs w
  have hsr0 := fun w hL => size_run n w hn hL
  rw [d0, ← HM.out] at hsr0
  clear hn hneg
  go_enter Tryd.func21, Tryd.ntmps21
  go_wp2_with fail
  go_at_call 39
  refine hcr.mono ?_
  rintro e w1 ⟨rfl, hb1⟩
  have hL1 : Laid.ok w1 := Laid.keep hb1 hL
  have hsr := hsr0 w1 hL1
  go_wp2_with fail
  go_at_call 25
  refine hsr.mono ?_
  rintro e w2 ⟨rfl, hb2⟩
  have hL2 : Laid.ok w2 := Laid.keep hb2 hL1
  go_wp2_with fail
  go_at_call 40
  refine (hpub w2.heap.size 0 _ [] w2 (World.ownsRow_nil _ _ _ _) (Nat.le_refl _) (by omega) hL2).mono ?_
  rintro e w3 ⟨v1, rfl, hown1, hb3⟩
  simp only [Nat.zero_add, List.nil_append] at hown1
  obtain ⟨D, HD⟩ : ∃ D, Hid (D = decDigits (m / 1000)) := ⟨_, Lib.hid rfl⟩
  rw [← HD.out] at hown1 hDl
  obtain ⟨B, HB⟩ : ∃ B, Hid (B = w2.heap.size) := ⟨_, Lib.hid rfl⟩
  rw [← HB.out] at hown1 hb3
  have hBs3 : B ≤ w3.heap.size := by have := hb3.size; have := HB.out; omega
  clear hpub hsr hsr0 hcr hL1 hL2
  go_wp2_with (at_builtin; refine wpList_append_own _ rfl _ _ 67 rfl B 5 i0 (.int .u8 0) 1 1 Tryd.underlying67 hi hz0 hz1 hz2 rfl (by decide) _ _ _ rfl (hown1.alloc _) ⟨w3.heap.size, 0, none⟩ 1 1 [Value.int .u8 46] rfl rfl (by intro j u' hj; match j, hj with | 0, hj => simp at hj; subst hj; simp [Addr.add]) (by intro u' hu'; simp at hu'; subst hu'; rfl) (by unfold maxLen; omega) (by omega) (by simp; omega) ?_)
  intro v2 w4 hown2 hgrow2 _
  have hb4 : Below B w3 w4 := ((Below.refl B w3).alloc hBs3 _).grown hgrow2 (by simp; omega) (fun k hk => (hown1.lt k hk).1)
  have hBs4 : B ≤ w4.heap.size := by have := hb4.size; omega
  clear hown1 hgrow2
  go_wp2_with (at_builtin; refine wpList_append_own _ rfl (.tmp 31) (.tmp 45) 67 rfl B 5 i0 (.int .u8 0) 1 1 Tryd.underlying67 hi hz0 hz1 hz2 rfl (by decide) _ _ _ rfl (hown2.alloc _) ⟨w4.heap.size, 0, none⟩ 4 4 [Value.int .u8 (48 + (m : Int) % 1000 / 100), Value.int .u8 (48 + (m : Int) % 1000 / 10 % 10), Value.int .u8 (48 + (m : Int) % 1000 % 10), Value.int .u8 32] rfl rfl ?c1 ?c2 ?c3 ?c4 ?c5 ?_)
  case c1 =>
    intro j u' hj
    match j, hj with
    | 0, hj => simp at hj; subst hj; simp [Addr.add]
    | 1, hj => simp at hj; subst hj; simp [Addr.add]
    | 2, hj => simp at hj; subst hj; simp [Addr.add]
    | 3, hj => simp at hj; subst hj; simp [Addr.add]
    | k + 4, hj => simp at hj
  case c2 => intro u' hu'; simp at hu'; rcases hu' with rfl | rfl | rfl | rfl <;> rfl
  case c3 => unfold maxLen; omega
  case c4 => omega
  case c5 => simp; omega
  intro v3 w5 hown3 hgrow3 _
  have hb5 : Below B w4 w5 := ((Below.refl B w4).alloc hBs4 _).grown hgrow3 (by simp; omega) (fun k hk => (hown2.lt k hk).1)
  have hBs5 : B ≤ w5.heap.size := by have := hb5.size; omega
  clear hown2 hgrow3
  go_wp2_with (at_builtin; refine Lib.wpList_append_own_string _ rfl _ _ 67 9 rfl B 5 i0 Tryd.underlying67 Tryd.underlying9 hi hz0 hz1 hz2 _ _ _ rfl hown3 c rfl (by unfold maxLen; omega) (by omega) hBs5 ?_)
  intro v4 w6 hown4 hgrow4 _
  have hb6 : Below B w5 w6 := (Below.refl B w5).grown hgrow4 hBs5 (fun k hk => (hown3.lt k hk).1)
  have hfin := own_fin (n := n) HM.out HD.out hcl hown4
  clear hown3 hgrow4 hown4
  go_wp2
  go_ret2
  have hs1 := hb1.size
  have hs2 := hb2.size
  have hBe := HB.out
  refine ⟨?_, ((((hb1.trans (hb2.mono hs1)).trans (hb3.mono (by omega))).trans (hb4.mono (by omega))).trans (hb5.mono (by omega))).trans (hb6.mono (by omega))⟩
  rw [fmtL, show sgn n = [] by unfold sgn; rw [if_neg (of_decide_eq_false d0)]]
  rfl
theorem fmt_neg (n : Int) (c : ByteArray) (w : World) (hn : inI n) (hc : c.size ≤ 1000000) (hL : Laid.ok w) (hcur : curOk c.data.toList = true) (hneg : n < 0) :
    Calls Tryd.prog 21 #[.int .i64 n, .string c] w fun e w' => e = .returned (.tuple #[.string (bs (fmtL n c.data.toList)), .int .i64 0]) ∧ Below w.heap.size w w' := by
  have hcr := cur_run c w hc hL
  rw [hcur] at hcr
  obtain ⟨m, HM⟩ : ∃ m, Hid (m = n.natAbs) := ⟨_, Lib.hid rfl⟩
  have hm64 : m < 18446744073709551616 := by have := HM.out; unfold inI at hn; omega
  have d0 : decide (n < 0) = true := decide_eq_true hneg
  have hq : IntKind.u64.wrap ((m : Int) / 1000) = ((m / 1000 : Nat) : Int) := by rw [IntKind.wrap_u64]; omega
  obtain ⟨i0, hi, hz0, hz1, hz2⟩ := info_parts Tryd.laysM288.i5
  replace hi : Tryd.prog.info? 5 = some i0 := hi
  have hDl := dec_len20 (n := m / 1000) (by omega)
  have hcl : c.size = 3 := cur_len hcur
  have hpub := fun (B n : Nat) (sv : Value) (xs : List Value) (w : World) => pub_run B n (m / 1000) (by omega) sv xs w
  have hsr0 := fun w hL => size_run n w hn hL
  rw [d0, ← HM.out] at hsr0
  clear hn hneg
  go_enter Tryd.func21, Tryd.ntmps21
  go_wp2_with fail
  go_at_call 39
  refine hcr.mono ?_
  rintro e w1 ⟨rfl, hb1⟩
  have hL1 : Laid.ok w1 := Laid.keep hb1 hL
  have hsr := hsr0 w1 hL1
  go_wp2_with fail
  go_at_call 25
  refine hsr.mono ?_
  rintro e w2 ⟨rfl, hb2⟩
  have hL2 : Laid.ok w2 := Laid.keep hb2 hL1
  obtain ⟨B, HB⟩ : ∃ B, Hid (B = w2.heap.size) := ⟨_, Lib.hid rfl⟩
  have hBs2 : B ≤ w2.heap.size := by have := HB.out; omega
  go_wp2_with (at_builtin; refine wpList_append_own _ rfl _ _ 67 rfl B 5 i0 (.int .u8 0) 1 1 Tryd.underlying67 hi hz0 hz1 hz2 rfl (by decide) _ _ _ rfl (World.ownsRow_nil _ _ _ _) ⟨w2.heap.size, 0, none⟩ 1 1 [Value.int .u8 45] rfl rfl (by intro j u' hj; match j, hj with | 0, hj => simp at hj; subst hj; simp [Addr.add]) (by intro u' hu'; simp at hu'; subst hu'; rfl) (by unfold maxLen; omega) (by omega) (by simp; omega) ?_)
  intro v0 w20 hown0 hgrow0 _
  have hb20 : Below B w2 w20 := ((Below.refl B w2).alloc hBs2 _).grown hgrow0 (by simp; omega) (fun k hk => by cases hk)
  have hBs20 : B ≤ w20.heap.size := by have := hb20.size; omega
  have hL20 : Laid.ok w20 := Laid.keep (hb20.mono (by rw [HB.out]; exact Nat.le_refl _)) hL2
  go_wp2_with fail
  go_at_call 40
  refine (hpub B 1 _ _ w20 hown0 hBs20 (by omega) hL20).mono ?_
  rintro e w3 ⟨v1, rfl, hown1, hb3⟩
  obtain ⟨D, HD⟩ : ∃ D, Hid (D = decDigits (m / 1000)) := ⟨_, Lib.hid rfl⟩
  rw [← HD.out] at hown1 hDl
  have hBs3 : B ≤ w3.heap.size := by have := hb3.size; omega
  clear hpub hsr hsr0 hcr hL1 hL2 hL20 hown0 hgrow0
  go_wp2_with (at_builtin; refine wpList_append_own _ rfl _ _ 67 rfl B 5 i0 (.int .u8 0) 1 1 Tryd.underlying67 hi hz0 hz1 hz2 rfl (by decide) _ _ _ rfl (hown1.alloc _) ⟨w3.heap.size, 0, none⟩ 1 1 [Value.int .u8 46] rfl rfl (by intro j u' hj; match j, hj with | 0, hj => simp at hj; subst hj; simp [Addr.add]) (by intro u' hu'; simp at hu'; subst hu'; rfl) (by unfold maxLen; omega) (by omega) (by simp; omega) ?_)
  intro v2 w4 hown2 hgrow2 _
  have hb4 : Below B w3 w4 := ((Below.refl B w3).alloc hBs3 _).grown hgrow2 (by simp; omega) (fun k hk => (hown1.lt k hk).1)
  have hBs4 : B ≤ w4.heap.size := by have := hb4.size; omega
  clear hown1 hgrow2
  go_wp2_with (at_builtin; refine wpList_append_own _ rfl (.tmp 31) (.tmp 45) 67 rfl B 5 i0 (.int .u8 0) 1 1 Tryd.underlying67 hi hz0 hz1 hz2 rfl (by decide) _ _ _ rfl (hown2.alloc _) ⟨w4.heap.size, 0, none⟩ 4 4 [Value.int .u8 (48 + (m : Int) % 1000 / 100), Value.int .u8 (48 + (m : Int) % 1000 / 10 % 10), Value.int .u8 (48 + (m : Int) % 1000 % 10), Value.int .u8 32] rfl rfl ?c1 ?c2 ?c3 ?c4 ?c5 ?_)
  case c1 =>
    intro j u' hj
    match j, hj with
    | 0, hj => simp at hj; subst hj; simp [Addr.add]
    | 1, hj => simp at hj; subst hj; simp [Addr.add]
    | 2, hj => simp at hj; subst hj; simp [Addr.add]
    | 3, hj => simp at hj; subst hj; simp [Addr.add]
    | k + 4, hj => simp at hj
  case c2 => intro u' hu'; simp at hu'; rcases hu' with rfl | rfl | rfl | rfl <;> rfl
  case c3 => unfold maxLen; omega
  case c4 => omega
  case c5 => simp; omega
  intro v3 w5 hown3 hgrow3 _
  have hb5 : Below B w4 w5 := ((Below.refl B w4).alloc hBs4 _).grown hgrow3 (by simp; omega) (fun k hk => (hown2.lt k hk).1)
  have hBs5 : B ≤ w5.heap.size := by have := hb5.size; omega
  clear hown2 hgrow3
  go_wp2_with (at_builtin; refine Lib.wpList_append_own_string _ rfl _ _ 67 9 rfl B 5 i0 Tryd.underlying67 Tryd.underlying9 hi hz0 hz1 hz2 _ _ _ rfl hown3 c rfl (by unfold maxLen; omega) (by omega) hBs5 ?_)
  intro v4 w6 hown4 hgrow4 _
  have hb6 : Below B w5 w6 := (Below.refl B w5).grown hgrow4 hBs5 (fun k hk => (hown3.lt k hk).1)
  have hfin := own_finN (n := n) HM.out HD.out hcl hown4
  clear hown3 hgrow4 hown4
  go_wp2
  go_ret2
  have hs1 := hb1.size
  have hs2 := hb2.size
  have hBe := HB.out
  refine ⟨?_, ((((hb1.trans (hb2.mono hs1)).trans ((hb20.trans hb3).mono (by omega))).trans (hb4.mono (by omega))).trans (hb5.mono (by omega))).trans (hb6.mono (by omega))⟩
  rw [fmtL, show sgn n = [45] by unfold sgn; rw [if_pos (of_decide_eq_true d0)]]
  rfl
theorem con21 : Contract Tryd.prog 21 SFmt := by
  refine conC (fun t => [.int .i64 t.1, .string t.2.1]) (fun t => rfl) (fun r => .tuple #[.string r.1, .int .i64 r.2]) (fun I w r => rep2 _ _) ?_
  rintro ⟨n, c, u⟩ r w h hL
  dsimp only at h
  split at h
  case isFalse => cases h
  rename_i hn
  cases h
  unfold fmtP
  cases hcur : curOk c.data.toList with
  | false =>
    rw [if_neg (by decide)]
    exact fmt_no n c w hn.2 hL hcur
  | true =>
    rw [if_pos rfl]
    by_cases h0 : n < 0
    · exact fmt_neg n c w hn.1 hn.2 hL hcur h0
    · exact fmt_pos n c w hn.1 hn.2 hL hcur h0
end Go.Proofs.YtfmeplnoikfndaaDoor
