import Derived.Test.YteocedfakgdckaaDoorCodes
namespace Go.Proofs.YteocedfakgdckaaDoor
set_option linter.all false
open Go.Idl
set_option maxHeartbeats 4000000
set_option maxRecDepth 100000
attribute [local go_sem] Tryd.underlying3 Tryd.underlying5 Tryd.underlying9 Tryd.underlying21
def cap (c : Int) : Int := if 97 ≤ c ∧ c ≤ 122 then c - 32 else c
def val (r : Int) : Int := if 48 ≤ r ∧ r ≤ 57 then r - 48 else if 65 ≤ r ∧ r ≤ 90 then r - 55 else if 97 ≤ r ∧ r ≤ 122 then r - 87 else -1
def F32 : List V → Option V
  | [.sc (.int .i32 c)] => some (.sc (.int .i64 (val c)))
  | _ => none
theorem con32 {Φ : Specs} (hg : Idl.Good Tryd.prog Φ) : Contract Tryd.prog 32 F32 := by
  refine contractL hg k32 ic32 (fun xs r h => ?_) fun C xs r h => ?_
  · unfold F32 at h; split at h <;> simp_all
  · unfold F32 at h
    split at h
    · rename_i c
      cases h
      simp +contextual only [go_sem, ↓reduceIte, Nat.reduceEqDiff, Nat.reduceAdd, Nat.reduceLeDiff, Nat.reduceLT, reduceCtorEq, c32, k32]
      simp only [IntKind.wrap_i32, IntKind.wrap_i64, Bool.and_eq_true, Bool.and_eq_false_iff, decide_eq_true_eq, decide_eq_false_iff_not, val]
      refine ⟨fun h1 => ?_, fun h1 => ⟨fun h2 => ?_, fun h2 => ⟨fun h3 => ?_, fun h3 => ?_⟩⟩⟩ <;> (repeat' split) <;> omega
    · cases h
def okb (b : Int) : Bool := decide (0 ≤ val b) || b == 45 || b == 95 || b == 46 || b == 58 || b == 42
def okName (s : ByteArray) : Bool := decide (1 ≤ s.size ∧ s.size ≤ 36 ∧ ∀ i, i < s.size → okb ((s.get! i).toNat : Int) = true)
def F10 : List V → Option V
  | [.sc (.string s)] => some (.sc (.bool (okName s)))
  | _ => none
theorem con10 {Φ : Specs} (hg : Idl.Good Tryd.prog Φ) (h32 : Φ 32 = some F32) : Contract Tryd.prog 10 F10 := by
  refine contractL hg k10 ic10 (fun xs r h => ?_) fun C xs r h => ?_
  · unfold F10 at h; split at h <;> simp_all
  · unfold F10 at h
    split at h
    · rename_i s
      cases h
      simp +contextual only [go_sem, ↓reduceIte, Nat.reduceEqDiff, Nat.reduceAdd, Nat.reduceLeDiff, Nat.reduceLT, reduceCtorEq, c10, k10]
      simp only [Bool.or_eq_true, Bool.or_eq_false_iff, decide_eq_true_eq, decide_eq_false_iff_not]
      refine ⟨fun h => ?_, fun h => ?_⟩
      · unfold okName; symm; rw [decide_eq_false_iff_not]; omega
      · refine TriI.loopA hg k10 (fun i : Nat => ⟨slotsL [(14, .ref 0 0 0)], updH (fun _ => .unborn) 0 (.ext (.iter s i)), 1⟩) (fun i => i ≤ s.size ∧ ∀ j, j < i → okb ((s.get! j).toNat : Int) = true) (fun i => s.size - i) 0 (.slots ?_) ⟨by omega, fun j hj => by omega⟩ ?_
        · simp +contextual only [go_sem, ↓reduceIte, Nat.reduceEqDiff, Nat.reduceAdd, Nat.reduceLeDiff, Nat.reduceLT, reduceCtorEq]
        · rintro i ⟨hi, hinv⟩
          by_cases hlt : i < s.size
          · by_cases hb : (s.get! i).toNat < 128
            · have next : ∀ τ n, okb ((s.get! i).toNat : Int) = true → holdsL τ [(14, .ref 0 0 0)] → again C (fun i : Nat => ⟨slotsL [(14, .ref 0 0 0)], updH (fun _ => .unborn) 0 (.ext (.iter s i)), 1⟩) (fun i => i ≤ s.size ∧ ∀ j, j < i → okb ((s.get! j).toNat : Int) = true) (fun i => s.size - i) i
                  ⟨τ, updH (updH (fun _ => .unborn) 0 (.ext (.iter s i))) 0 (.ext (.iter s (i + 1))), n⟩ := fun τ n hok hτ =>
                ⟨i + 1, by dsimp only; omega, ⟨by omega, fun j hj => by
                  by_cases e : j = i
                  · subst e; exact hok
                  · exact hinv j (by omega)⟩, .slotsH (updH_over _ _ _ _) hτ⟩
              have stop : okb ((s.get! i).toNat : Int) = false → false = okName s := fun hok => by
                unfold okName; symm; rw [decide_eq_false_iff_not]
                intro hh
                rw [hh.2.2 i hlt] at hok
                cases hok
              simp +contextual only [go_sem, ↓reduceIte, Nat.reduceEqDiff, Nat.reduceAdd, Nat.reduceLeDiff, Nat.reduceLT, reduceCtorEq, k10, h32, F32, hlt, decode_low hb]
              generalize ((s.get! i).toNat : Int) = b at *
              have hn : ∀ τ n, okb b = true → holdsL τ [(14, .ref 0 0 0)] → _ := next
              have hcase : ∀ x : Int, (b == x) = true → okb x = true → okb b = true := fun x h1 h2 => by rw [beq_iff_eq.1 h1]; exact h2
              refine ⟨fun h1 => next _ _ (hcase _ h1 (by decide)) ?_, fun h1 => ⟨fun h2 => next _ _ (hcase _ h2 (by decide)) ?_, fun h2 => ⟨fun h3 => next _ _ (hcase _ h3 (by decide)) ?_, fun h3 => ⟨fun h4 => next _ _ (hcase _ h4 (by decide)) ?_, fun h4 => ⟨fun h5 => next _ _ (hcase _ h5 (by decide)) ?_, fun h5 => ⟨fun h6 => stop ?_, fun h6 => next _ _ ?_ ?_⟩⟩⟩⟩⟩⟩
              all_goals first
                | (simp +contextual only [go_sem, ↓reduceIte, Nat.reduceEqDiff, Nat.reduceAdd, Nat.reduceLeDiff, Nat.reduceLT, reduceCtorEq]; done)
                | skip
              · unfold okb; simp [h1, h2, h3, h4, h5]; simpa using h6
              · unfold okb; simp at h6; simp [h6]
            · obtain ⟨h1, h2⟩ := decode_high hb
              have stop : false = okName s := by
                unfold okName; symm; rw [decide_eq_false_iff_not]
                intro hh
                have := hh.2.2 i hlt
                unfold okb val at this
                have e : ∀ x : Int, x < 128 → (((s.get! i).toNat : Int) == x) = false := fun x hx => by simp; omega
                rw [e 45 (by omega), e 95 (by omega), e 46 (by omega), e 58 (by omega), e 42 (by omega)] at this
                simp at this
                (repeat' split at this) <;> omega
              have e : ∀ x : Int, x < 128 → (((Utf8.decode s i).1 : Int) == x) = false := fun x hx => by simp; omega
              have hv : decide (val ((Utf8.decode s i).1 : Int) < 0) = true := by
                unfold val; simp; (repeat' split) <;> omega
              simp +contextual only [go_sem, ↓reduceIte, Nat.reduceEqDiff, Nat.reduceAdd, Nat.reduceLeDiff, Nat.reduceLT, reduceCtorEq, k10, h32, F32, hlt, e 45 (by omega), e 95 (by omega), e 46 (by omega), e 58 (by omega), e 42 (by omega), hv]
              exact stop
          · simp +contextual only [go_sem, ↓reduceIte, Nat.reduceEqDiff, Nat.reduceAdd, Nat.reduceLeDiff, Nat.reduceLT, reduceCtorEq, k10, hlt]
            unfold okName; symm; rw [decide_eq_true_eq]
            exact ⟨by omega, by omega, fun j hj => hinv j (by omega)⟩
    · cases h
end Go.Proofs.YteocedfakgdckaaDoor
namespace Go.Proofs.YteocedfakgdckaaDoor
set_option linter.all false
open Go.Idl
set_option maxHeartbeats 4000000
set_option maxRecDepth 100000
attribute [local go_sem] Tryd.underlying3 Tryd.underlying5 Tryd.underlying9
def inR (lo hi x : Int) : Bool := decide (lo ≤ x) && decide (x ≤ hi)
def timeOk (x : Int) : Bool := inR 0 268435456 x
def rdgOk (r : Rdg) : Bool := timeOk r.time && inR 0 1099511627775 r.reg
def noMore (p : Option Rdg) (r : Rdg) : Bool := match p with
  | some q => decide (r.time ≤ q.time)
  | none => false
def rdsL (p : Option Rdg) : List Rdg → Int
  | [] => 0
  | r :: l => bif !rdgOk r then 2 else bif noMore p r then 1 else rdsL (some r) l
def lastT (l : List Rdg) : Int := ((l.getLast?).map (·.time)).getD 0
def rdsS (e : EvD) : Int := bif decide (e.rds.length > 16) then 3 else bif decide (e.rds.length = 0) then 1 else bif rdsL none e.rds != 0 then rdsL none e.rds else bif lastT e.rds != e.time then 1 else 0
def kindS (e : EvD) : Int :=
  bif e.kind == 1 then (bif e.seq != 0 || e.reason != 0 then 1 else bif !okName e.token then 4 else 0)
  else bif e.kind == 3 then (bif decide (e.reason < 1) || decide (e.reason > 6) then 1 else bif e.kind == 2 && e.reason != 0 || e.seq == 0 || !decide (e.token = ⟨#[]⟩) then 1 else 0)
  else bif e.kind == 2 then (bif e.reason != 0 || e.seq == 0 || !decide (e.token = ⟨#[]⟩) then 1 else 0)
  else 1
def numsS (e : EvD) : Bool := inR 1 32 e.conn && inR 0 2147483647 e.seq && timeOk e.time
def evS (e : EvD) : Int :=
  bif !okName e.station || !okName e.txn then 4 else bif !numsS e then 2 else bif kindS e != 0 then kindS e else rdsS e
theorem con63 {Φ : Specs} (hg : Idl.Good Tryd.prog Φ) (h10 : Φ 10 = some F10) : Contract Tryd.prog 63 (FT fun (t : EvD × Unit) => some (kindS t.1)) := by
  refine conT hg k63 ic63 (by decide) fun C t r h => ?_
  obtain ⟨e, u⟩ := t
  cases h
  simp +contextual only [go_sem, ↓reduceIte, Nat.reduceEqDiff, Nat.reduceAdd, Nat.reduceLeDiff, Nat.reduceLT, reduceCtorEq, c63, k63, h10, F10]
  (repeat' (first | apply And.intro | intro _)) <;> simp only [kindS, *, cond_true, cond_false]
theorem drop_pre {α : Type} {l a xs : List α} {x : α} {i : Nat} (hd : l.drop i = x :: xs) (h : l = a ++ (x :: xs)) : i = a.length := by
  have h1 := congrArg List.length hd
  have h2 := congrArg List.length h
  simp at h1 h2
  omega
theorem rd_bad (r : Rdg) : (decide (r.time < 0) || decide (r.time > 268435456) || decide (r.reg < 0) || decide (r.reg > 1099511627775)) = !rdgOk r := by
  rw [Bool.eq_iff_iff]; simp [rdgOk, timeOk, inR]; omega
theorem rdsL_app (a : List Rdg) (l : List Rdg) (x : Rdg) (xs : List Rdg) (h : rdsL a.getLast? (x :: xs) = rdsL none l) : (rdgOk x = false → rdsL none l = 2) ∧ (rdgOk x = true → noMore a.getLast? x = true → rdsL none l = 1) ∧ (rdgOk x = true → noMore a.getLast? x = false → rdsL (a ++ [x]).getLast? xs = rdsL none l) := by
  rw [← h, rdsL]
  refine ⟨fun h => by simp [h], fun h1 h2 => by simp [h1, h2], fun h1 h2 => by simp [h1, h2]⟩
theorem con64 {Φ : Specs} (hg : Idl.Good Tryd.prog Φ) : Contract Tryd.prog 64 (FT fun (t : EvD × Unit) => some (rdsS t.1)) := by
  refine conT hg k64 ic64 (by decide) fun C t r h => ?_
  obtain ⟨e, u⟩ := t
  cases h
  simp +contextual only [go_sem, ↓reduceIte, Nat.reduceEqDiff, Nat.reduceAdd, Nat.reduceLeDiff, Nat.reduceLT, reduceCtorEq, c64, k64, List.length_map]
  refine ⟨fun h => ?_, fun h => ⟨fun h2 => ?_, fun h2 => ?_⟩⟩
  · have : decide (e.rds.length > 16) = true := by simp at h ⊢; omega
    simp [rdsS, this]
  · have h1 : decide (e.rds.length > 16) = false := by simp at h ⊢; omega
    have : decide (e.rds.length = 0) = true := by simp at h2 ⊢; simp [h2]
    simp only [rdsS, h1, this, cond_true, cond_false]
  · have h1 : decide (e.rds.length > 16) = false := by simp at h ⊢; omega
    have h16 : e.rds.length ≤ 16 := by simp at h1; exact h1
    have h0 : e.rds ≠ [] := by intro h; simp [h] at h2
    have h3 : decide (e.rds.length = 0) = false := by simp [h0]
    refine TriI.loopL hg k64 e.rds (fun i (_ : List Rdg) => ⟨slotsL [(1, .ref 0 0 0), (14, Cod.enc e.rds), (15, .sc (.int .i64 e.rds.length)), (16, .sc (.int .i64 i))], objsL [.live 10 [Cod.enc e] true], 1⟩)
      (fun xs a => e.rds = a ++ xs ∧ rdsL a.getLast? xs = rdsL none e.rds) [] (.back rfl ?_) ⟨rfl, rfl⟩ ?_ ?_
    · simp +contextual only [go_sem, ↓reduceIte, Nat.reduceEqDiff, Nat.reduceAdd, Nat.reduceLeDiff, Nat.reduceLT, reduceCtorEq, List.length_map]
      rfl
    · intro a hinv
      have hz : rdsL none e.rds = 0 := hinv.2.symm
      have hw : IntKind.i64.wrap ((e.rds.length : Int) - 1) = ((e.rds.length - 1 : Nat) : Int) := by
        have : 0 < e.rds.length := List.length_pos_iff.2 h0
        rw [IntKind.wrap_i64]; omega
      have hlast : e.rds[e.rds.length - 1]? = some (e.rds.getLast h0) := by rw [← List.getLast?_eq_getElem?, List.getLast?_eq_some_getLast h0]
      have hT : lastT e.rds = (e.rds.getLast h0).time := by simp [lastT, List.getLast?_eq_some_getLast h0]
      simp +contextual only [go_sem, ↓reduceIte, Nat.reduceEqDiff, Nat.reduceAdd, Nat.reduceLeDiff, Nat.reduceLT, reduceCtorEq, k64, Int.lt_irrefl, decide_false, hw, hlast, List.length_map, List.getElem?_map, Option.map_some, Int.natCast_nonneg, Int.toNat_natCast]
      rw [← hT]
      refine ⟨rfl, fun hb => ?_, fun hb => ?_⟩ <;> simp only [rdsS, h1, h3, hz, hb, cond_true, cond_false, bne_self_eq_false]
    · intro i a x xs hd hlt hx hinv
      have hw := wrap_nat hlt (by omega)
      have hi := drop_pre hd hinv.1
      obtain ⟨r1, r2, r3⟩ := rdsL_app a e.rds x xs hinv.2
      rcases List.eq_nil_or_concat a with rfl | ⟨a', y, rfl⟩
      · have i0 : i = 0 := by simpa using hi
        have hg0 : decide ((i : Int) > 0) = false := by simp [i0]
        simp +contextual only [go_sem, ↓reduceIte, Nat.reduceEqDiff, Nat.reduceAdd, Nat.reduceLeDiff, Nat.reduceLT, reduceCtorEq, k64, lt_dec hlt, hx, hg0, List.getElem?_map, Option.map_some, Int.natCast_nonneg, Int.toNat_natCast, rd_bad]
        refine ⟨fun hb => ?_, fun hb => ⟨rfl, [x], ?_, .back rfl ?_⟩⟩
        · simp only [Bool.not_eq_true'] at hb
          simp [rdsS, h1, h0, r1 hb]
        · simp only [Bool.not_eq_false'] at hb
          exact ⟨hinv.1, r3 hb rfl⟩
        · simp +contextual only [go_sem, ↓reduceIte, Nat.reduceEqDiff, Nat.reduceAdd, Nat.reduceLeDiff, Nat.reduceLT, reduceCtorEq, hw]
      · have hg1 : decide ((i : Int) > 0) = true := by simp at hi ⊢; omega
        have hw1 : IntKind.i64.wrap ((i : Int) - 1) = ((i - 1 : Nat) : Int) := by
          have : 0 < i := by simpa using hg1
          rw [IntKind.wrap_i64]; omega
        have hy : e.rds[i - 1]? = some y := by
          rw [hinv.1, hi]; simp
        simp +contextual only [go_sem, ↓reduceIte, Nat.reduceEqDiff, Nat.reduceAdd, Nat.reduceLeDiff, Nat.reduceLT, reduceCtorEq, k64, lt_dec hlt, hx, hg1, hw1, hy, List.getElem?_map, Option.map_some, Int.natCast_nonneg, Int.toNat_natCast, rd_bad]
        have hn : noMore (a'.concat y).getLast? x = decide (x.time ≤ y.time) := by simp [noMore]
        rw [hn] at r2 r3
        refine ⟨fun hb => ?_, fun hb => ⟨rfl, fun hc => ?_, fun hc => ⟨a'.concat y ++ [x], ?_, .back rfl ?_⟩⟩⟩
        · simp only [Bool.not_eq_true'] at hb
          simp [rdsS, h1, h0, r1 hb]
        · simp only [Bool.not_eq_false'] at hb
          simp [rdsS, h1, h0, r2 hb hc]
        · simp only [Bool.not_eq_false'] at hb
          exact ⟨by rw [hinv.1]; simp, r3 hb hc⟩
        · simp +contextual only [go_sem, ↓reduceIte, Nat.reduceEqDiff, Nat.reduceAdd, Nat.reduceLeDiff, Nat.reduceLT, reduceCtorEq, hw]
abbrev SEv : List V → Option V := FT fun (t : EvD × Unit) => some (evS t.1)
theorem con35 {Φ : Specs} (hg : Idl.Good Tryd.prog Φ) (h10 : Φ 10 = some F10) (h63 : Φ 63 = some (FT fun (t : EvD × Unit) => some (kindS t.1))) (h64 : Φ 64 = some (FT fun (t : EvD × Unit) => some (rdsS t.1))) :
    Contract Tryd.prog 35 SEv := by
  refine conT hg k35 ic35 (by decide) fun C t r h => ?_
  obtain ⟨e, u⟩ := t
  cases h
  simp +contextual only [go_sem, ↓reduceIte, Nat.reduceEqDiff, Nat.reduceAdd, Nat.reduceLeDiff, Nat.reduceLT, reduceCtorEq, c35, k35, h10, F10, h63, h64]
  have hn : (decide (e.conn < 1) || decide (e.conn > 32) || decide (e.seq < 0) || decide (e.seq > 2147483647) || decide (e.time < 0) || decide (e.time > 268435456)) = !numsS e := by
    rw [Bool.eq_iff_iff]; simp [numsS, timeOk, inR]; omega
  simp only [hn]
  (repeat' (first | apply And.intro | intro _)) <;> simp only [evS, *, cond_true, cond_false]
end Go.Proofs.YteocedfakgdckaaDoor
namespace Go.Proofs.YteocedfakgdckaaDoor
set_option linter.all false
open Go.Idl
set_option maxHeartbeats 4000000
set_option maxRecDepth 100000
theorem eqRdg : eqInfo Tryd.prog 24 = some [.i .i64, .i .i64] := by kernel_rfl
attribute [local go_sem] Tryd.underlying3 Tryd.underlying5 Tryd.underlying9 Tryd.underlying4 eqRdg
def eqR : List Rdg → List Rdg → Bool
  | [], [] => true
  | x :: xs, y :: ys => (x.time == y.time && x.reg == y.reg) && eqR xs ys
  | _, _ => false
theorem eqR_len : ∀ {a b : List Rdg}, a.length ≠ b.length → eqR a b = false
  | [], [], h => absurd rfl h
  | x :: xs, y :: ys, h => by simp only [eqR]; rw [eqR_len (by simpa using h)]; simp
  | [], _ :: _, _ => rfl
  | _ :: _, [], _ => rfl
theorem eqR_iff : ∀ {a b : List Rdg}, eqR a b = true ↔ a = b
  | [], [] => by simp [eqR]
  | ⟨x1, x2⟩ :: xs, ⟨y1, y2⟩ :: ys => by simp [eqR, eqR_iff (a := xs) (b := ys)]
  | [], _ :: _ => by simp [eqR]
  | _ :: _, [] => by simp [eqR]
abbrev SEqR : List V → Option V := FT fun (t : List Rdg × List Rdg × Unit) => if t.1.length ≤ 1000000 then some (eqR t.1 t.2.1) else none
theorem con31 {Φ : Specs} (hg : Idl.Good Tryd.prog Φ) : Contract Tryd.prog 31 SEqR := by
  refine conT hg k31 ic31 (by decide) fun C t r h => ?_
  obtain ⟨a, b, u⟩ := t
  dsimp only at h
  split at h
  · rename_i hle
    cases h
    simp +contextual only [go_sem, ↓reduceIte, Nat.reduceEqDiff, Nat.reduceAdd, Nat.reduceLeDiff, Nat.reduceLT, reduceCtorEq, c31, k31, List.length_map]
    refine ⟨fun h => (eqR_len (fun e => by simp [e] at h)).symm, fun h => ?_⟩
    have h1 : a.length = b.length := by simp at h; omega
    refine TriI.loopL hg k31 a (fun i (_ : List Rdg × List Rdg) => ⟨slotsL [(0, Cod.enc a), (1, Cod.enc b), (12, .sc (.int .i64 a.length)), (13, .sc (.int .i64 i))], objsL [], 0⟩)
      (fun xs p => a = p.1 ++ xs ∧ b.drop p.1.length = p.2 ∧ xs.length = p.2.length ∧ eqR xs p.2 = eqR a b) ([], b) (.back rfl ?_) ⟨rfl, rfl, h1, rfl⟩ ?_ ?_
    · simp +contextual only [go_sem, ↓reduceIte, Nat.reduceEqDiff, Nat.reduceAdd, Nat.reduceLeDiff, Nat.reduceLT, reduceCtorEq]
      rfl
    · rintro ⟨p, ys⟩ ⟨i1, i2, i3, i4⟩
      have e : ys = [] := List.eq_nil_of_length_eq_zero i3.symm
      dsimp only at i4
      rw [e] at i4
      simp +contextual only [go_sem, ↓reduceIte, Nat.reduceEqDiff, Nat.reduceAdd, Nat.reduceLeDiff, Nat.reduceLT, reduceCtorEq, k31, Int.lt_irrefl, decide_false]
      rw [← i4]; rfl
    · rintro i ⟨p, ys⟩ x xs hd hlt hx ⟨i1, i2, i3, i4⟩
      dsimp only at i1 i2 i3 i4
      have hw := wrap_nat hlt (by omega)
      have hi := drop_pre hd i1
      cases ys with
      | nil => simp at i3
      | cons y ys =>
        have hy : b[i]? = some y := by
          rw [hi]
          have := congrArg (fun l => l[0]?) i2
          simpa using this
        have hb2 : b.drop (p ++ [x]).length = ys := by
          have := congrArg (List.drop 1) i2
          simpa using this
        simp only [eqR] at i4
        simp +contextual only [go_sem, ↓reduceIte, Nat.reduceEqDiff, Nat.reduceAdd, Nat.reduceLeDiff, Nat.reduceLT, reduceCtorEq, k31, lt_dec hlt, hx, hy, List.getElem?_map, Option.map_some, Int.natCast_nonneg, Int.toNat_natCast]
        refine ⟨rfl, fun hc => ?_, fun hc => ⟨(p ++ [x], ys), ⟨by rw [i1]; simp, hb2, by simpa using i3, ?_⟩, .back rfl ?_⟩⟩
        · rw [← i4]
          have : (x.time == y.time && x.reg == y.reg) = false := by rw [← Bool.not_eq_true']; exact hc
          simp [this]
        · rw [← i4]
          have : (x.time == y.time && x.reg == y.reg) = true := by simpa using hc
          simp [this]
        · simp +contextual only [go_sem, ↓reduceIte, Nat.reduceEqDiff, Nat.reduceAdd, Nat.reduceLeDiff, Nat.reduceLT, reduceCtorEq, hw]
  · cases h
def sameE (a b : EvD) : Bool := decide (a.station = b.station) && decide (a.txn = b.txn) && a.conn == b.conn && a.seq == b.seq && a.kind == b.kind && a.time == b.time && decide (a.token = b.token) && (a.offline == b.offline) && a.reason == b.reason && eqR a.rds b.rds
theorem sameE_iff {a b : EvD} : sameE a b = true ↔ a = b := by
  obtain ⟨a1, a2, a3, a4, a5, a6, a7, a8, a9, a10⟩ := a
  obtain ⟨b1, b2, b3, b4, b5, b6, b7, b8, b9, b10⟩ := b
  simp [sameE, eqR_iff, and_assoc]
abbrev SSame : List V → Option V := FT fun (t : EvD × EvD × Unit) => if t.1.rds.length ≤ 1000000 then some (sameE t.1 t.2.1) else none
theorem con39 {Φ : Specs} (hg : Idl.Good Tryd.prog Φ) (hq : Φ 31 = some SEqR) : Contract Tryd.prog 39 SSame := by
  refine conT hg k39 ic39 (by decide) fun C t r h => ?_
  obtain ⟨a, b, u⟩ := t
  dsimp only at h
  split at h
  · rename_i hle
    cases h
    simp +contextual only [go_sem, ↓reduceIte, Nat.reduceEqDiff, Nat.reduceAdd, Nat.reduceLeDiff, Nat.reduceLT, reduceCtorEq, c39, k39, hq, hle]
    rfl
  · cases h
end Go.Proofs.YteocedfakgdckaaDoor
namespace Go.Idl
@[ext] structure FldD where
  tag : Int
  data : List UInt8
def FldD.dec : V → Option FldD
  | .agg [c0, c1] => bO (Cod.dec c0 : Option (Int)) fun a0 => bO (Cod.dec c1 : Option (List UInt8)) fun a1 => some (.mk a0 a1)
  | _ => none
instance : Cod FldD where
  enc := fun d => .agg [Cod.enc d.tag, Cod.enc d.data]
  dec := FldD.dec
  sz := 2
  len := fun _ => rfl
  dec_enc := fun d => by
    simp only [FldD.dec, Cod.dec_enc, bO_some]
  le := fun v a h => by
    unfold FldD.dec at h
    split at h
    · simp only [bO_eq] at h
      obtain ⟨a0, h0, a1, h1, he⟩ := h
      cases he
      exact .agg (.cons (Cod.le _ _ h0).le (.cons (Cod.le _ _ h1).le .nil))
    · cases h
@[go_sem ↓] theorem FldD.enc_eq (d : FldD) : Cod.enc d = .agg [Cod.enc d.tag, Cod.enc d.data] := nd rfl
@[go_sem ↓] theorem FldD.dec_eq (c0 c1 : V) : (Cod.dec (.agg [c0, c1]) : Option FldD) = bO (Cod.dec c0 : Option (Int)) fun a0 => bO (Cod.dec c1 : Option (List UInt8)) fun a1 => some (.mk a0 a1) := nd rfl
def FldD.ok (d : FldD) : Prop := okI d.tag ∧ okL (fun l => True) d.data
@[go_sem ↓] theorem FldD.sz_eq : Cod.sz FldD = 2 := nd rfl
@[ext] structure OboxD where
  room : Int
  items : List EvD
  lost : Int
def OboxD.dec : V → Option OboxD
  | .agg [c0, c1, c2] => bO (Cod.dec c0 : Option (Int)) fun a0 => bO (Cod.dec c1 : Option (List EvD)) fun a1 => bO (Cod.dec c2 : Option (Int)) fun a2 => some (.mk a0 a1 a2)
  | _ => none
instance : Cod OboxD where
  enc := fun d => .agg [Cod.enc d.room, Cod.enc d.items, Cod.enc d.lost]
  dec := OboxD.dec
  sz := 3
  len := fun _ => rfl
  dec_enc := fun d => by
    simp only [OboxD.dec, Cod.dec_enc, bO_some]
  le := fun v a h => by
    unfold OboxD.dec at h
    split at h
    · simp only [bO_eq] at h
      obtain ⟨a0, h0, a1, h1, a2, h2, he⟩ := h
      cases he
      exact .agg (.cons (Cod.le _ _ h0).le (.cons (Cod.le _ _ h1).le (.cons (Cod.le _ _ h2).le .nil)))
    · cases h
@[go_sem ↓] theorem OboxD.enc_eq (d : OboxD) : Cod.enc d = .agg [Cod.enc d.room, Cod.enc d.items, Cod.enc d.lost] := nd rfl
@[go_sem ↓] theorem OboxD.dec_eq (c0 c1 c2 : V) : (Cod.dec (.agg [c0, c1, c2]) : Option OboxD) = bO (Cod.dec c0 : Option (Int)) fun a0 => bO (Cod.dec c1 : Option (List EvD)) fun a1 => bO (Cod.dec c2 : Option (Int)) fun a2 => some (.mk a0 a1 a2) := nd rfl
def OboxD.ok (d : OboxD) : Prop := okI d.room ∧ okL (EvD.ok) d.items ∧ okI d.lost
@[go_sem] theorem OboxD.eta (d : OboxD) : OboxD.mk d.room d.items d.lost = d := nd rfl
instance instU : CodR Unit where
  encR := fun _ => .tup []
  decR := fun | .tup [] => some () | _ => none
  leR := fun v a h => by
    split at h
    · exact LeV.refl _
    · cases h
@[go_sem ↓] theorem encR_unit (a : Unit) : CodR.encR a = .tup [] := nd rfl
@[go_sem ↓] theorem decR_unit : (CodR.decR (.tup []) : Option Unit) = some () := nd rfl
end Go.Idl
