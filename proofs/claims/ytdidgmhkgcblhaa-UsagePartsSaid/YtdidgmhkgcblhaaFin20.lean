/- A further reading does not change the total. -/
import Derived.Test.YtdidgmhkgcblhaaLaw20
namespace Go.Proofs.Ytdidgmhkgcblhaa
set_option linter.all false
open Go.Idl
set_option maxHeartbeats 4000000
set_option maxRecDepth 100000
attribute [local go_sem] Try.underlying3 Try.underlying5 Try.underlying40 Try.underlying9 Try.underlying4
theorem vrL_mk {m : Int} : ∀ {p : Option Rdg} {l : List Rdg}, (∀ r, r ∈ l → rOk m r = true) → asc (p.toList ++ l) = true → vrL m p l = 0
  | p, [], _, _ => rfl
  | p, r :: l, h1, h2 => by
    have hr := h1 r (by simp)
    have hn : uNoMore p r = false := by
      cases p with
      | none => rfl
      | some q =>
        simp only [Option.toList, List.cons_append, List.nil_append, asc, Bool.and_eq_true, decide_eq_true_eq] at h2
        have := h2.1
        simp [uNoMore]; omega
    have ha : asc ((some r).toList ++ l) = true := by
      cases p with
      | none => exact h2
      | some q =>
        simp only [Option.toList, List.cons_append, List.nil_append, asc, Bool.and_eq_true] at h2
        exact h2.2
    simp only [vrL, hr, hn, Bool.not_true, cond_false]
    exact vrL_mk (fun q hq => h1 q (List.mem_cons_of_mem _ hq)) ha
theorem valS_mk {l : List Rdg} {m : Int} (h : Vld l m) : valS l m = 0 := by
  have h1 : (decide (m < 1000) || decide (m > 1099511627776)) = false := by have := h.m1; have := h.m2; simp; omega
  have h2 : decide (l.length = 0) = false := by simp [h.ne]
  have h3 : decide (l.length > 1024) = false := by have := h.len; simp; omega
  simp only [valS, h1, h2, h3, cond_false]
  exact vrL_mk h.ok h.asc
theorem asc_mid {a c b : Rdg} {post : List Rdg} (h1 : a.time < c.time) (h2 : c.time < b.time) : ∀ {pre : List Rdg}, asc (pre ++ a :: b :: post) = true → asc (pre ++ a :: c :: b :: post) = true
  | [], h => by
    simp only [List.nil_append, asc, Bool.and_eq_true, decide_eq_true_eq] at h ⊢
    exact ⟨h1, h2, h.2⟩
  | [x], h => by
    simp only [List.cons_append, List.nil_append, asc, Bool.and_eq_true, decide_eq_true_eq] at h ⊢
    exact ⟨h.1, h1, h2, h.2.2⟩
  | x :: y :: pre, h => by
    simp only [List.cons_append, asc, Bool.and_eq_true, decide_eq_true_eq] at h ⊢
    exact ⟨h.1, asc_mid h1 h2 (pre := y :: pre) h.2⟩
theorem totL_mid {m : Int} {a c b : Rdg} {post : List Rdg} (h : bt m a c + bt m c b = bt m a b) : ∀ {pre : List Rdg}, totL m (pre ++ a :: c :: b :: post) = totL m (pre ++ a :: b :: post)
  | [] => by simp only [List.nil_append, totL]; omega
  | [x] => by simp only [List.cons_append, List.nil_append, totL]; omega
  | x :: y :: pre => by
    have := totL_mid (post := post) h (pre := y :: pre)
    simp only [List.cons_append, totL] at this ⊢
    omega
theorem bt_mid {m : Int} {a c b : Rdg} {s : Int} (hm : 0 < m) (h0 : 0 ≤ s) (h1 : s ≤ bt m a b) (hc : c.reg = (a.reg + s) % m) : bt m a c + bt m c b = bt m a b := by
  have hb := bt_range a b hm
  have e1 : bt m a c = s := by
    unfold bt
    rw [hc, Int.sub_emod, Int.emod_emod, ← Int.sub_emod, show a.reg + s - a.reg = s by omega]
    exact Int.emod_eq_of_lt h0 (by omega)
  have e2 : bt m c b = bt m a b - s := by
    have : bt m c b = (bt m a b - s) % m := by
      unfold bt
      rw [hc, Int.sub_emod b.reg, Int.emod_emod, ← Int.sub_emod, show b.reg - (a.reg + s) = b.reg - a.reg - s by omega, Int.sub_emod (b.reg - a.reg), Int.sub_emod ((b.reg - a.reg) % m) s, Int.emod_emod]
    rw [this]
    exact Int.emod_eq_of_lt (by omega) (by omega)
  omega
theorem con7 {Φ : Specs} (hg : Idl.Good Try.prog Φ) (h9 : Φ 9 = some Aw) (h12 : Φ 12 = some STot) (h11 : Φ 11 = some SVal) (h21 : Φ 21 = some SBt) : Contract Try.prog 7 (FT fun (_ : List Rdg × Int × KInt .u8 × KInt .u32 × Unit) => some true) := by
  refine conT hg k7 ic7 (by decide) fun C t r h => ?_
  obtain ⟨l, m, F, G, u⟩ := t
  cases h
  have f1' : 0 ≤ F.1 := F.2.1
  have f2' : F.1 ≤ 255 := F.2.2
  have g1' : 0 ≤ G.1 := G.2.1
  have g2' : G.1 ≤ 4294967295 := G.2.2
  by_cases h40 : l.length > 40
  · have d1 : decide ((l.length : Int) > 40) = true := by simp; omega
    simp +contextual only [go_sem, ↓reduceIte, Nat.reduceEqDiff, Nat.reduceAdd, Nat.reduceLeDiff, Nat.reduceLT, reduceCtorEq, c7, k7, h9, d1, List.length_map]
  have d1 : decide ((l.length : Int) > 40) = false := by simp; omega
  by_cases hl2 : l.length < 2
  · have d2 : decide ((l.length : Int) < 2) = true := by simp; omega
    simp +contextual only [go_sem, ↓reduceIte, Nat.reduceEqDiff, Nat.reduceAdd, Nat.reduceLeDiff, Nat.reduceLT, reduceCtorEq, c7, k7, h9, d1, d2, List.length_map]
  have d2 : decide ((l.length : Int) < 2) = false := by simp; omega
  by_cases hz : valS l m = 0
  rotate_left
  · have d3 : (valS l m != 0) = true := by simpa using hz
    simp +contextual only [go_sem, ↓reduceIte, Nat.reduceEqDiff, Nat.reduceAdd, Nat.reduceLeDiff, Nat.reduceLT, reduceCtorEq, c7, k7, h9, d1, d2, h11, d3, List.length_map]
  have d3 : (valS l m != 0) = false := by simpa using hz
  have hv := valS_ok hz
  obtain ⟨A, hA⟩ := Int.eq_ofNat_of_zero_le f1'
  obtain ⟨B, hB⟩ := Int.eq_ofNat_of_zero_le g1'
  have hjl := Nat.mod_lt A (show l.length - 1 > 0 by omega)
  generalize hj : A % (l.length - 1) = j at hjl
  have w1 : IntKind.i64.wrap (A : Int) = A := by rw [IntKind.wrap_i64]; omega
  have w1' : IntKind.i64.wrap (B : Int) = B := by rw [IntKind.wrap_i64]; omega
  have w2 : IntKind.i64.wrap ((l.length : Int) - 1) = ((l.length - 1 : Nat) : Int) := by rw [IntKind.wrap_i64]; omega
  have n2 : ((l.length - 1 : Nat) : Int) ≠ 0 := by omega
  have n2' : ¬ ((l.length - 1 : Nat) : Int) = 0 := n2
  have w3 : ((A : Int)).tmod ((l.length - 1 : Nat) : Int) = (j : Int) := by rw [Int.tmod_eq_emod_of_nonneg (by omega), ← Int.natCast_emod, hj]
  have w4 : IntKind.i64.wrap (j : Int) = j := by rw [IntKind.wrap_i64]; omega
  have w5 : IntKind.i64.wrap (1 + (j : Int)) = ((j + 1 : Nat) : Int) := by rw [IntKind.wrap_i64]; omega
  have w6 : IntKind.i64.wrap (((j + 1 : Nat) : Int) - 1) = (j : Int) := by rw [IntKind.wrap_i64]; omega
  have hx : l[j]? = some l[j] := by simp
  have hy : l[j + 1]? = some l[j + 1] := by simp
  obtain ⟨xt, x1, x2⟩ := rOk_at hv hx
  obtain ⟨yt, y1, y2⟩ := rOk_at hv hy
  have ox := hv.ok _ (List.mem_of_getElem? hx)
  have oy := hv.ok _ (List.mem_of_getElem? hy)
  have hm1 := hv.m1
  have hm2 := hv.m2
  have hab := asc_at hv.asc hx hy
  have hsplit : l = l.take j ++ l[j] :: l[j + 1] :: l.drop (j + 2) := by
    conv => lhs; rw [← List.take_append_drop j l]
    rw [List.drop_eq_getElem_cons (by omega), List.drop_eq_getElem_cons (by omega)]
  generalize l[j] = a at hx x1 x2 xt ox hab hsplit
  generalize l[j + 1] = b at hy y1 y2 yt oy hab hsplit
  have w7 : IntKind.i64.wrap (b.time - a.time) = b.time - a.time := by rw [IntKind.wrap_i64]; omega
  have hb := bt_range a b (m := m) (by omega)
  by_cases h2 : b.time - a.time < 2
  · have d4 : decide (b.time - a.time < 2) = true := by simpa using h2
    simp +contextual only [go_sem, ↓reduceIte, Nat.reduceEqDiff, Nat.reduceAdd, Nat.reduceLeDiff, Nat.reduceLT, reduceCtorEq, c7, k7, h9, d1, d2, h11, d3, d4, hA, hB, w1, w2, n2, n2', ne_eq, not_false_eq_true, w3, w4, w5, w6, w7, hx, hy, List.length_map, List.getElem?_map, Option.map_some, Int.natCast_nonneg, Int.toNat_natCast]
    rfl
  have d4 : decide (b.time - a.time < 2) = false := by simpa using h2
  obtain ⟨e, he⟩ := Int.eq_ofNat_of_zero_le hb.1
  obtain ⟨d, hd⟩ := Int.eq_ofNat_of_zero_le (show 0 ≤ b.time - a.time - 1 by omega)
  have hs := Nat.mod_lt B (show e + 1 > 0 by omega)
  have ht := Nat.mod_lt B (show d > 0 by omega)
  generalize hsv : B % (e + 1) = s at hs
  generalize htv : B % d = t at ht
  have v1 : IntKind.i64.wrap ((e : Int) + 1) = ((e + 1 : Nat) : Int) := by rw [IntKind.wrap_i64]; omega
  have v2 : ((B : Int)).tmod ((e + 1 : Nat) : Int) = (s : Int) := by rw [Int.tmod_eq_emod_of_nonneg (by omega), ← Int.natCast_emod, hsv]
  have v3 : IntKind.i64.wrap (s : Int) = s := by rw [IntKind.wrap_i64]; omega
  have v4 : ((e + 1 : Nat) : Int) ≠ 0 := by omega
  have v4' : ¬ ((e + 1 : Nat) : Int) = 0 := v4
  have v5 : IntKind.i64.wrap (a.time + 1) = a.time + 1 := by rw [IntKind.wrap_i64]; omega
  have v6 : IntKind.i64.wrap (b.time - a.time - 1) = (d : Int) := by rw [hd, IntKind.wrap_i64]; omega
  have v7 : (d : Int) ≠ 0 := by omega
  have v7' : ¬ (d : Int) = 0 := v7
  have v8 : ((B : Int)).tmod (d : Int) = (t : Int) := by rw [Int.tmod_eq_emod_of_nonneg (by omega), ← Int.natCast_emod, htv]
  have v9 : IntKind.i64.wrap (t : Int) = t := by rw [IntKind.wrap_i64]; omega
  have v10 : IntKind.i64.wrap (a.time + 1 + (t : Int)) = a.time + 1 + t := by rw [IntKind.wrap_i64]; omega
  have v11 : IntKind.i64.wrap (a.reg + (s : Int)) = a.reg + s := by rw [IntKind.wrap_i64]; omega
  have v12 : (a.reg + (s : Int)).tmod m = (a.reg + s) % m := by rw [Int.tmod_eq_emod_of_nonneg (by omega)]
  have hmb := Int.emod_nonneg (a.reg + (s : Int)) (show m ≠ 0 by omega)
  have hmb2 := Int.emod_lt_of_pos (a.reg + (s : Int)) (show 0 < m by omega)
  have v13 : IntKind.i64.wrap ((a.reg + (s : Int)) % m) = (a.reg + s) % m := by rw [IntKind.wrap_i64]; omega
  have m0 : m ≠ 0 := by omega
  have m0' : ¬ m = 0 := m0
  -- the lists
  have hT : totS l m = (totL m l, 0) := by simp only [totS, d3, cond_false]
  have hM : totS (l.take (j + 1) ++ [⟨a.time + 1 + t, (a.reg + s) % m⟩] ++ l.drop (j + 1)) m = (totL m l, 0) := by
    have e0 : l.drop (j + 1) = b :: l.drop (j + 2) := by
      obtain ⟨hlt, rfl⟩ := List.getElem?_eq_some_iff.1 hy
      exact List.drop_eq_getElem_cons hlt
    have e1 : l.take (j + 1) = l.take j ++ [a] := by
      rw [List.take_succ, hx]; rfl
    have e2 : l.take (j + 1) ++ [⟨a.time + 1 + t, (a.reg + s) % m⟩] ++ l.drop (j + 1) = l.take j ++ a :: ⟨a.time + 1 + t, (a.reg + s) % m⟩ :: b :: l.drop (j + 2) := by
      rw [e0, e1]; simp
    rw [e2]
    have hvm : Vld (l.take j ++ a :: ⟨a.time + 1 + t, (a.reg + s) % m⟩ :: b :: l.drop (j + 2)) m := by
      refine ⟨hm1, hm2, by simp, ?_, fun r hr => ?_, ?_⟩
      · have := congrArg List.length hsplit
        simp at this ⊢; omega
      · rcases List.mem_append.1 hr with hr | hr
        · exact hv.ok r (List.mem_of_mem_take hr)
        · rcases List.mem_cons.1 hr with rfl | hr
          · exact ox
          · rcases List.mem_cons.1 hr with rfl | hr
            · simp [rOk]; omega
            · rcases List.mem_cons.1 hr with rfl | hr
              · exact oy
              · exact hv.ok r (List.mem_of_mem_drop hr)
      · refine asc_mid ?_ ?_ (by rw [← hsplit]; exact hv.asc)
        · dsimp only; omega
        · dsimp only; omega
    have hz2 := valS_mk hvm
    have d5 : (valS (l.take j ++ a :: ⟨a.time + 1 + t, (a.reg + s) % m⟩ :: b :: l.drop (j + 2)) m != 0) = false := by simpa using hz2
    simp only [totS, d5, cond_false]
    rw [totL_mid (bt_mid (s := (s : Int)) (by omega) (by omega) (by omega) rfl), ← hsplit]
  have q1 : List.take (j + 1) (l.map Cod.enc) = (l.take (j + 1)).map Cod.enc := List.map_take.symm
  have q2 : List.drop (j + 1) (l.map Cod.enc) = (l.drop (j + 1)).map Cod.enc := List.map_drop.symm
  have q3 : (j + 1) ≤ l.length := by omega
  have q4 : List.drop (j + 1) (List.take l.length (l.map Cod.enc)) = (l.drop (j + 1)).map Cod.enc := by rw [List.take_of_length_le (by simp), List.map_drop]
  generalize hc : (⟨a.time + 1 + t, (a.reg + s) % m⟩ : Rdg) = c at hM
  have kk1 : (l.take (j + 1)).length * 16 ≤ 68719476736 := by simp; omega
  have kk2 : (l.take (j + 1)).length ≤ 4294967296 := by simp; omega
  have kk3 : ((l.take (j + 1)).length + 1) * 16 ≤ 68719476736 := by simp; omega
  have kk4 : (l.take (j + 1)).length + 1 ≤ 4294967296 := by simp; omega
  have kk5 : ((l.take (j + 1)).length + 1 + (l.drop (j + 1)).length) * 16 ≤ 68719476736 := by simp; omega
  have kk6 : (l.take (j + 1)).length + 1 + (l.drop (j + 1)).length ≤ 4294967296 := by simp; omega
  have kk7 : (l.take (j + 1)).map Cod.enc ++ [V.agg [V.sc (.int .i64 (a.time + 1 + t)), V.sc (.int .i64 ((a.reg + s) % m))]] = (l.take (j + 1) ++ [c]).map Cod.enc := by rw [List.map_append, ← hc]; rfl
  have kk8 : (l.take (j + 1) ++ [c]).map (Cod.enc : Rdg → V) ++ (l.drop (j + 1)).map Cod.enc = (l.take (j + 1) ++ [c] ++ l.drop (j + 1)).map Cod.enc := List.map_append.symm
  have kk9 : (l.take (j + 1) ++ [c]).length = (l.take (j + 1)).length + 1 := by simp
  have kk10 : ((l.take (j + 1) ++ [c] ++ l.drop (j + 1)).map (Cod.enc : Rdg → V)).take ((l.take (j + 1)).length + 1 + (l.drop (j + 1)).length) = (l.take (j + 1) ++ [c] ++ l.drop (j + 1)).map Cod.enc := List.take_of_length_le (by simp; omega)
  have kk11 : (l.take (j + 1) ++ [c] ++ l.drop (j + 1)).length = (l.take (j + 1)).length + 1 + (l.drop (j + 1)).length := by simp; omega
  simp +contextual only [go_sem, ↓reduceIte, Nat.reduceEqDiff, Nat.reduceAdd, Nat.reduceLeDiff, Nat.reduceLT, reduceCtorEq, c7, k7, h9, d1, d2, h11, d3, d4, hA, hB, w1, w1', w2, n2, n2', ne_eq, not_false_eq_true, w3, w4, w5, w6, w7, hx, hy, h21, hm1, hm2, ox, oy, and_self, he, v1, v2, v3, v4, v4', v5, v6, v7, v7', v8, v9, v10, v11, v12, v13, m0, m0', List.length_map, List.getElem?_map, Option.map_some, Option.map_none, Int.natCast_nonneg, Int.toNat_natCast, q1, q2, q3, q4, kk1, kk2, kk3, kk4, kk5, kk6, kk7, kk8, kk9, kk10, kk11, okE_rdgs, isF_rdgs, okE, h12, hT, hM, decL_enc Cod.dec_enc, beq_self_eq_true, Nat.zero_add, Nat.le_refl, List.drop_zero, true_and, and_true]
  exact ⟨rfl, rfl⟩
end Go.Proofs.Ytdidgmhkgcblhaa
