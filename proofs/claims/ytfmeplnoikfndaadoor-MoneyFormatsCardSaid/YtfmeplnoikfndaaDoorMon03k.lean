/- Amounts: the library's functions, by the contracts of the shelf; amounts as text. -/
import Derived.Test.YtfmeplnoikfndaaDoorMon03l
import Derived.Test.YtfmeplnoikfndaaDoorLib03
import Derived.Shelf.Strconv.AppendInt10
import Derived.Lib.LaidTab
import Derived.OwnWalk
import Derived.WalkKit
import Derived.BigCall
import Derived.BigGuard
namespace Go.Proofs.YtfmeplnoikfndaaDoor
set_option linter.all false
open Go.Idl Go.Lib Go.RowKit
set_option linter.all false
set_option maxHeartbeats 16000000
set_option maxRecDepth 100000
theorem conC {P : Program} {f : FuncId} {α γ : Type} [CodA α] [CodR γ] {g : α → Option γ} (vs : α → List Value) (hv : ∀ t, CodA.encA t = (vs t).map .sc) (rv : γ → Value) (hr : ∀ I w r, Rep I w noPlaces (CodR.encR r) (rv r))
    (h : ∀ t r w, g t = some r → Laid.ok w → Calls P f (vs t).toArray w fun e w' => e = .returned (rv r) ∧ Below w.heap.size w w') : Contract P f (FT g) := by
  intro I w args xs r hl hrep hI hL hF
  cases hd : (CodA.decA xs : Option α) with
  | none => simp [FT, FTb, hd] at hF
  | some t =>
    cases hgt : g t with
    | none => simp [FT, FTb, hd, FTc, hgt] at hF
    | some b =>
      simp only [FT, FTb, hd, FTc, hgt, Option.some.injEq] at hF
      subst hF
      have hle := CodA.leA _ _ hd
      have hlen' : (CodA.encA t).length = args.size := by rw [← hle.1, hl]
      have ha : args = (vs t).toArray := by
        apply Array.ext
        · rw [← hlen', hv]; simp
        · intro i h1 h2
          have hx : (CodA.encA t)[i]? = some (.sc ((vs t)[i]'(by simpa using h2))) := by
            rw [hv, List.getElem?_map, List.getElem?_eq_getElem (by simpa using h2)]; rfl
          have hj : i < xs.length := by rw [hle.1]; exact (List.getElem?_eq_some_iff.1 hx).1
          have := (hle.2 i xs[i] _ (by simp) hx I w args[i] (hrep i xs[i] args[i] (by simp) (by simp [h1]))).sc_eq
          simpa using this
      rw [ha]
      refine (h t b w hgt hL).mono ?_
      rintro e w' ⟨rfl, hb⟩
      exact ⟨_, rfl, ⟨hb.os, hb.tape, hb.output, hb.size, hb.block, trivial⟩, hr _ _ _⟩
theorem rep2 {I : Imm} {w : World} (a b : Value) : Rep I w noPlaces (.tup [.sc a, .sc b]) (.tuple #[a, b]) := by
  refine .tup _ _ _ rfl fun k c u hc hu => ?_
  match k with
  | 0 => simp at hc hu; subst hc hu; exact .sc _ _
  | 1 => simp at hc hu; subst hc hu; exact .sc _ _
  | k + 2 => simp at hc
theorem con26 : Contract Tryd.prog 26 SMul := by
  refine conC (fun t => [.int .u64 (t.1.n : Int), .int .u64 (t.2.1.n : Int)]) (fun t => rfl) (fun r => .tuple #[.int .u64 (r.1.n : Int), .int .u64 (r.2.n : Int)]) (fun I w r => rep2 _ _) ?_
  rintro ⟨⟨x⟩, ⟨y⟩, u⟩ r w h hL
  dsimp only at h
  split at h
  case isFalse => cases h
  rename_i hn
  cases h
  refine (Tryd.bits_Mul64 x y hn.1 hn.2 w).mono ?_
  rintro e w' ⟨rfl, rfl⟩
  exact ⟨rfl, Below.refl _ _⟩
theorem bitLen_log {x : Nat} (h : 1 ≤ x) (h2 : x < 18446744073709551616) : Lib.bitLen x = Nat.log2 x + 1 := by
  obtain ⟨b1, b2, b3⟩ := Lib.bitLenAux_bounds 64 x (by omega) (by omega)
  have e1 := Nat.log2_self_le (n := x) (by omega)
  have e2 := Nat.lt_log2_self (n := x)
  change 1 ≤ Lib.bitLen x at b1
  change 2 ^ (Lib.bitLen x - 1) ≤ x at b2
  change x < 2 ^ Lib.bitLen x at b3
  have c1 : Lib.bitLen x - 1 < Nat.log2 x + 1 := by
    apply (Nat.pow_lt_pow_iff_right (a := 2) (by decide)).1
    omega
  have c2 : Nat.log2 x < Lib.bitLen x := by
    apply (Nat.pow_lt_pow_iff_right (a := 2) (by decide)).1
    omega
  omega
theorem con44 : Contract Tryd.prog 44 SLz := by
  refine conC (fun t => [.int .u64 (t.1.n : Int)]) (fun t => rfl) (fun r => .int .i64 r) (fun I w r => .sc _ _) ?_
  rintro ⟨⟨x⟩, u⟩ r w h hL
  dsimp only at h
  split at h
  case isFalse => cases h
  rename_i hn
  cases h
  have hx : x < 18446744073709551616 := hn.1
  refine (Tryd.bits_LeadingZeros64 (x : Int) w (by omega) (by omega)).mono ?_
  rintro e w' ⟨rfl, rfl⟩
  refine ⟨?_, Below.refl _ _⟩
  rw [Int.toNat_natCast, bitLen_log hn.2 hx]
  have hl : Nat.log2 x ≤ 63 := by
    have h1 := Nat.log2_self_le (n := x) (by omega)
    by_cases h : Nat.log2 x ≤ 63
    · exact h
    · have : (2 : Nat) ^ 64 ≤ 2 ^ Nat.log2 x := Nat.pow_le_pow_right (by decide) (by omega)
      omega
  congr 2
  omega
theorem rep_if {I : Imm} {w : World} (a : Value) (t : TypeId) (u : Value) : Rep I w noPlaces (.tup [.sc a, .iface t .any]) (.tuple #[a, .iface t u]) := by
  refine .tup _ _ _ rfl fun k c v hc hu => ?_
  match k with
  | 0 => simp at hc hu; subst hc hu; exact .sc _ _
  | 1 => simp at hc hu; subst hc hu; exact .iface _ _ _ _ (.any _ _)
  | k + 2 => simp at hc
theorem below_bel {w w' : World} (h : Below w.heap.size w w') : Bel w.heap.size w w' := ⟨h.os, h.tape, h.output, h.size, h.block, trivial⟩
theorem con43 : Contract Tryd.prog 43 SPInt := by
  intro I w args xs r hl hrep hI hL h
  unfold SPInt at h
  split at h
  case h_2 => cases h
  rename_i s
  split at h
  case isFalse => cases h
  rename_i hs
  obtain ⟨a0, a1, a2, rfl⟩ : ∃ a0 a1 a2, args = #[a0, a1, a2] := by
    rcases args with ⟨l⟩
    match l, hl with
    | [a0, a1, a2], _ => exact ⟨a0, a1, a2, rfl⟩
  have e0 := (hrep 0 _ a0 rfl rfl).sc_eq
  have e1 := (hrep 1 _ a1 rfl rfl).sc_eq
  have e2 := (hrep 2 _ a2 rfl rfl).sc_eq
  subst e0 e1 e2
  obtain ⟨_, ⟨t1, p1, v1⟩, t2, p2, v2⟩ := hL
  rcases hv : Lib.parseIntB 64 s.data.toList with v | _ | _ <;> rw [hv] at h
  · cases h
    refine (Tryd.strconv_ParseInt_10_at64_ok s (by omega) v hv w).mono ?_
    rintro e w' ⟨rfl, hw⟩
    refine ⟨_, rfl, ?_, rep2 _ _⟩
    rcases hw with rfl | ⟨t, rfl⟩
    · exact Bel.refl _ _
    · exact below_bel (Lib.bytesWorld_below w 5 t)
  · cases h
    refine (Tryd.strconv_ParseInt_10_at64_bad s (by omega) ⟨fun v e => (by rw [hv] at e; cases e), fun e => (by rw [hv] at e; cases e)⟩ t1 p1 w v1).mono ?_
    rintro e w' ⟨N, rfl, _, _, hb⟩
    exact ⟨_, rfl, below_bel hb, rep_if _ _ _⟩
  · cases h
    refine (Tryd.strconv_ParseInt_10_at64_range_var s (by omega) hv t2 p2 w v2).mono ?_
    rintro e w' ⟨N, rfl, _, _, hb⟩
    exact ⟨_, rfl, below_bel hb, rep_if _ _ _⟩
theorem good0 : Idl.Good Tryd.prog (fun _ => none) := good_none (by kernel_rfl)
theorem cur_run (c : ByteArray) (w : World) (hc : c.size ≤ 1000000) (hL : Laid.ok w) : Calls Tryd.prog 39 #[.string c] w fun e w' => e = .returned (.bool (curOk c.data.toList)) ∧ Below w.heap.size w w' := by
  refine (con39 good0 (fun _ _ => False) w #[.string c] [.sc (.string c)] (.sc (.bool (curOk c.data.toList))) rfl ?_ (fun _ _ h => h.elim) hL ?_).mono ?_
  · intro j x u hx hu
    match j with
    | 0 => simp at hx hu; subst hx hu; exact .sc _ _
    | j + 1 => simp at hx
  · show FTb _ (some (c, ())) = _
    show FTc (if c.size ≤ 9223372036854775807 then _ else _) = _
    rw [if_pos (by omega)]
    rfl
  · rintro e w' ⟨u, rfl, hb, hr⟩
    have := hr.sc_eq
    subst this
    exact ⟨rfl, hb.below⟩
theorem size_run (n : Int) (w : World) (hn : inI n) (hL : Laid.ok w) : Calls Tryd.prog 25 #[.int .i64 n] w fun e w' => e = .returned (.tuple #[.int .u64 (n.natAbs : Int), .bool (decide (n < 0))]) ∧ Below w.heap.size w w' := by
  refine (con25 good0 (fun _ _ => False) w #[.int .i64 n] [.sc (.int .i64 n)] (.tup [.sc (.int .u64 (n.natAbs : Int)), .sc (.bool (decide (n < 0)))]) rfl ?_ (fun _ _ h => h.elim) hL ?_).mono ?_
  · intro j x u hx hu
    match j with
    | 0 => simp at hx hu; subst hx hu; exact .sc _ _
    | j + 1 => simp at hx
  · show FTb _ (some (n, ())) = _
    show FTc (if inI n then _ else _) = _
    rw [if_pos hn]
    rfl
  · rintro e w' ⟨u, rfl, hb, hr⟩
    cases hr with
    | tup _ _ vs hl h =>
      refine ⟨?_, hb.below⟩
      rcases vs with ⟨l⟩
      match l, hl with
      | [a0, a1], _ =>
        have e0 := (h 0 _ a0 rfl rfl).sc_eq
        have e1 := (h 1 _ a1 rfl rfl).sc_eq
        subst e0 e1
        rfl
end Go.Proofs.YtfmeplnoikfndaaDoor
