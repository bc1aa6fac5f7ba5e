/- Amounts: parts. -/
import Derived.Test.YtfmeplnoikfndaaDoorMon03j
import Derived.Test.YtfmeplnoikfndaaDoorMon03st
import Derived.Test.YtfmeplnoikfndaaDoorStabE
namespace Go.Proofs.YtfmeplnoikfndaaDoor
set_option linter.all false
open Go.Idl
set_option linter.all false
set_option maxHeartbeats 8000000
set_option maxRecDepth 100000
attribute [local go_sem] Tryd.underlying3 Tryd.underlying45 Tryd.underlying74 Tryd.underlying5 Tryd.underlying9 Tryd.underlying4 Tryd.underlying22
@[ext] structure RemD where
  idx : Int
  rest : U64
def RemD.dec : V → Option RemD
  | .agg [c0, c1] => bO (Cod.dec c0 : Option (Int)) fun a0 => bO (Cod.dec c1 : Option U64) fun a1 => some (.mk a0 a1)
  | _ => none
instance : Cod RemD where
  enc := fun d => .agg [Cod.enc d.idx, Cod.enc d.rest]
  dec := RemD.dec
  sz := 2
  len := fun _ => rfl
  dec_enc := fun d => by
    simp only [RemD.dec, Cod.dec_enc, bO_some]
  le := fun v a h => by
    unfold RemD.dec at h
    split at h
    · simp only [bO_eq] at h
      obtain ⟨a0, h0, a1, h1, he⟩ := h
      cases he
      exact .agg (.cons (Cod.le _ _ h0).le (.cons (Cod.le _ _ h1).le .nil))
    · cases h
@[go_sem ↓] theorem RemD.enc_eq (d : RemD) : Cod.enc d = .agg [Cod.enc d.idx, Cod.enc d.rest] := rfl
@[go_sem ↓] theorem RemD.dec_eq (c0 c1 : V) : (Cod.dec (.agg [c0, c1]) : Option RemD) = bO (Cod.dec c0 : Option (Int)) fun a0 => bO (Cod.dec c1 : Option U64) fun a1 => some (.mk a0 a1) := rfl
@[go_sem ↓] theorem RemD.sz_eq : Cod.sz RemD = 2 := rfl
def cmpR (a b : Nat) : Int := if b < a then -1 else if a < b then 1 else 0
theorem con37 {Φ : Specs} (hg : Idl.Good Tryd.prog Φ) : Contract Tryd.prog 37 (FT fun (t : RemD × RemD × Unit) => some (cmpR t.1.rest.n t.2.1.rest.n)) := by
  refine conT hg k37 ic37 (by decide) fun C t r h => ?_
  obtain ⟨⟨ia, ⟨a⟩⟩, ⟨ib, ⟨b⟩⟩, u⟩ := t
  cases h
  dsimp only
  unfold cmpR
  by_cases h1 : b < a
  · have d1 : decide ((a : Int) > (b : Int)) = true := by simp; omega
    rw [if_pos h1]
    simp +contextual only [go_sem, ↓reduceIte, Nat.reduceEqDiff, Nat.reduceAdd, Nat.reduceLeDiff, Nat.reduceLT, reduceCtorEq, c37, k37, d1]
  · have d1 : decide ((a : Int) > (b : Int)) = false := by simp; omega
    rw [if_neg h1]
    by_cases h2 : a < b
    · have d2 : decide ((a : Int) < (b : Int)) = true := by simp; omega
      rw [if_pos h2]
      simp +contextual only [go_sem, ↓reduceIte, Nat.reduceEqDiff, Nat.reduceAdd, Nat.reduceLeDiff, Nat.reduceLT, reduceCtorEq, c37, k37, d1, d2]
    · have d2 : decide ((a : Int) < (b : Int)) = false := by simp; omega
      rw [if_neg h2]
      simp +contextual only [go_sem, ↓reduceIte, Nat.reduceEqDiff, Nat.reduceAdd, Nat.reduceLeDiff, Nat.reduceLT, reduceCtorEq, c37, k37, d1, d2]
theorem callT_con {P : Program} {C : Ctx} {f : FuncId} {F : List V → Option V} (he : Idl.enters P f = true) (hc : Contract P f F) {vs : List V} {s : SF} {r : V} (hF : F vs = some r) (hf : vs.all V.isF = true) {K : V → SF → Prop} (hK : K r s) : CallT P C f vs s K := by
  refine ⟨he, fun tm w γ I args hS hl hrep => ?_⟩
  rw [List.all_eq_true] at hf
  refine (hc I w args vs r hl (fun j x u hx hu => (hrep j x u hx hu).frozenF (hf x (List.mem_of_getElem? hx))) hS.immS (Laid.keep hS.below.below C.laid) hF).mono ?_
  rintro e w' ⟨u, rfl, hb, hr⟩
  refine ⟨u, r, s, rfl, hK, γ, _, hS.grow hb (I' := fun g x => I g x ∨ (w.heap.size ≤ g ∧ g < w'.heap.size)) (fun _ _ h => .inl h) fun _ _ h => h, hr.mono (Pres.refl _ _) (fun _ _ h => h) (by simp [noPlaces])⟩
theorem ft_two {α β γ : Type} [Cod α] [Cod β] [CodR γ] (g : α × β × Unit → Option γ) (a : α) (b : β) : FT g [Cod.enc a, Cod.enc b] = FTc (g (a, b, ())) := by
  simp only [FT, decA_cons, decA_unit, Cod.dec_enc, dec2, FTb]
def cellsR (r : Nat → Nat) (x : Nat) : List V := [.sc (.int .i64 (x : Int)), .sc (.int .u64 (r x : Int))]
theorem elsR (r : Nat → Nat) : Els 2 (cellsR r) := ⟨fun _ => rfl, fun _ => rfl, fun _ => rfl⟩
theorem cmpT3 {Φ : Specs} (hg : Idl.Good Tryd.prog Φ) (r : Nat → Nat) : CmpT Tryd.prog 37 (cellsR r) fun x y => cmpR (r x) (r y) := by
  intro x y C s K hK
  refine callT_con (facts_enters ic37) (con37 hg) (r := .sc (.int .i64 (cmpR (r x) (r y)))) ((ft_two _ (⟨x, ⟨r x⟩⟩ : RemD) ⟨y, ⟨r y⟩⟩).trans ?_) (by rfl) hK
  rfl
theorem cmpR_bet {r : Nat → Nat} {x y : Nat} (h : cmpR (r x) (r y) < 0 ∨ (¬ cmpR (r y) (r x) < 0 ∧ x < y)) : bet r x y = true := by
  rw [bet_iff]
  unfold cmpR at h
  repeat' split at h
  all_goals omega
def okW (x : Int) : Bool := decide (0 ≤ x) && decide (x ≤ 1099511627776)
def natsW (w : List Int) : List Nat := w.map Int.toNat
def sgnP (a : Int) (x : Nat) : Int := if a < 0 then -(x : Int) else (x : Int)
def partsS (a : Int) (w : List Int) : List Int := (List.range w.length).map fun i => sgnP a (partF a.natAbs (natsW w) i)
def splitS (a : Int) (w : List Int) : List Int × Int :=
  if 512 < w.length then ([], 3) else if a < -1099511627776 ∨ 1099511627776 < a then ([], 2) else if w.all okW = false then ([], 2) else if w.sum = 0 then ([], 1) else (partsS a w, 0)
theorem okW_iff {x : Int} : okW x = true ↔ 0 ≤ x ∧ x ≤ 1099511627776 := by simp [okW]
theorem nats_len (w : List Int) : (natsW w).length = w.length := by simp [natsW]
theorem nats_sum : ∀ {w : List Int}, w.all okW = true → ((natsW w).sum : Int) = w.sum
  | [], _ => rfl
  | x :: w, h => by
    rw [List.all_cons, Bool.and_eq_true] at h
    have ih := nats_sum h.2
    have := okW_iff.1 h.1
    unfold natsW at ih ⊢
    rw [List.map_cons, List.sum_cons, List.sum_cons]
    omega
theorem nats_get {w : List Int} (h : w.all okW = true) {i : Nat} {x : Int} (hx : w[i]? = some x) : (natsW w).getD i 0 = x.toNat ∧ 0 ≤ x ∧ x ≤ 1099511627776 ∧ (x.toNat : Int) = x := by
  have hm := (List.all_eq_true.1 h) x (List.mem_of_getElem? hx)
  have := okW_iff.1 hm
  refine ⟨?_, this.1, this.2, by omega⟩
  rw [natsW, List.getD_eq_getElem?_getD, List.getElem?_map, hx]; rfl
theorem le_sum : ∀ {l : List Nat} {i x : Nat}, l[i]? = some x → x ≤ l.sum
  | y :: l, 0, x, h => by simp at h; subst h; simp
  | y :: l, i + 1, x, h => by
    have := le_sum (l := l) (i := i) (x := x) (by simpa using h)
    rw [List.sum_cons]; omega
theorem sum_le_all : ∀ {w : List Int}, w.all okW = true → 0 ≤ w.sum ∧ w.sum ≤ 1099511627776 * (w.length : Int)
  | [], _ => by simp
  | x :: w, h => by
    rw [List.all_cons, Bool.and_eq_true] at h
    have ih := sum_le_all h.2
    have := okW_iff.1 h.1
    rw [List.sum_cons, List.length_cons]; omega
section
variable {α : Type}
def filL (f : Nat → α) (z : α) (n i : Nat) : List α := (List.range i).map f ++ List.replicate (n - i) z
theorem fil_zero (f : Nat → α) (z : α) (n : Nat) : filL f z n 0 = List.replicate n z := by simp [filL]
theorem fil_all (f : Nat → α) (z : α) (n : Nat) : filL f z n n = (List.range n).map f := by simp [filL]
theorem fil_set (f : Nat → α) (z : α) {n i : Nat} (h : i < n) : (filL f z n i).set i (f i) = filL f z n (i + 1) := by
  unfold filL
  rw [List.set_append_right _ _ (by simp), List.length_map, List.length_range, Nat.sub_self, List.range_succ, List.map_append]
  obtain ⟨k, hk⟩ : ∃ k, n - i = k + 1 := ⟨n - i - 1, by omega⟩
  rw [hk, show n - (i + 1) = k by omega, List.replicate_succ]
  simp
theorem fil_get (f : Nat → α) (z : α) {n i : Nat} (h : i < n) : (filL f z n i)[i]? = some z := by
  unfold filL
  rw [List.getElem?_append_right (by simp), List.length_map, List.length_range, Nat.sub_self, List.getElem?_replicate, if_pos (by omega)]
theorem fil_get_lt (f : Nat → α) (z : α) {n i j : Nat} (h : j < i) : (filL f z n i)[j]? = some (f j) := by
  unfold filL
  rw [List.getElem?_append_left (by simpa using h)]
  simp [h]
theorem map_set (f g : Nat → α) {n i : Nat} (h : i < n) (hf : ∀ j, j ≠ i → g j = f j) : ((List.range n).map f).set i (g i) = (List.range n).map g := by
  apply List.ext_getElem?
  intro j
  by_cases e : j = i
  · subst e
    rw [List.getElem?_set_self (by simpa using h)]
    simp [h]
  · rw [List.getElem?_set_ne (fun h => e h.symm), List.getElem?_map, List.getElem?_map]
    by_cases hj : j < n
    · simp [hj, hf j e]
    · simp [hj]
end
theorem rep_low (m n : Nat) (z : V) (h : z.low m = true) : (List.replicate n z).all (V.low m) = true := List.all_eq_true.2 fun x hx => by rw [List.eq_of_mem_replicate hx]; exact h
theorem map_low (m : Nat) {α : Type} (l : List α) (f : α → V) (h : ∀ j, (f j).low m = true) : (l.map f).all (V.low m) = true := List.all_eq_true.2 fun x hx => by
  obtain ⟨j, _, rfl⟩ := List.mem_map.1 hx
  exact h j
theorem fil_low (m : Nat) (f : Nat → V) (z : V) (n i : Nat) (h : ∀ j, (f j).low m = true) (hz : z.low m = true) : (filL f z n i).all (V.low m) = true := by
  unfold filL
  rw [List.all_append, map_low m _ f h, rep_low m _ z hz]; rfl
theorem cmp_a {r : Nat → Nat} (x : Nat) : ¬ cmpR (r x) (r x) < 0 := by unfold cmpR; simp
theorem cmp_b {r : Nat → Nat} (x y z : Nat) (h1 : cmpR (r x) (r y) < 0) (h2 : cmpR (r y) (r z) < 0) : cmpR (r x) (r z) < 0 := by
  unfold cmpR at *
  repeat' split at h1
  all_goals repeat' split at h2
  all_goals repeat' split
  all_goals omega
theorem cmp_c {r : Nat → Nat} (x y z : Nat) (h1 : ¬ cmpR (r x) (r y) < 0) (h2 : ¬ cmpR (r y) (r z) < 0) : ¬ cmpR (r x) (r z) < 0 := by
  unfold cmpR at *
  repeat' split at h1
  all_goals repeat' split at h2
  all_goals repeat' split
  all_goals omega
def partK (A : Nat) (w : List Nat) (k j : Nat) : Nat := quoF A w j + if rankR (restF A w) w.length j < k then 1 else 0
theorem partK_all (A : Nat) (w : List Nat) (j : Nat) : partK A w (leftQ A w) j = partF A w j := rfl
theorem partK_zero (A : Nat) (w : List Nat) (j : Nat) : partK A w 0 j = quoF A w j := by simp [partK]
theorem partK_at {A : Nat} {w : List Nat} {k x : Nat} (h : rankR (restF A w) w.length x = k) : partK A w k x = quoF A w x ∧ partK A w (k + 1) x = quoF A w x + 1 := by
  unfold partK; rw [h]; simp
theorem partK_ne {A : Nat} {w : List Nat} {k x j : Nat} (h : rankR (restF A w) w.length x = k) (hx : x < w.length) (hj : j < w.length) (hne : j ≠ x) : partK A w (k + 1) j = partK A w k j := by
  unfold partK
  have : rankR (restF A w) w.length j ≠ k := fun e => hne (rank_inj hj hx (e.trans h.symm))
  by_cases h2 : rankR (restF A w) w.length j < k
  · rw [if_pos h2, if_pos (by omega)]
  · rw [if_neg h2, if_neg (by omega)]
theorem map_set2 {α : Type} (f g : Nat → α) {n i : Nat} (h : i < n) (hf : ∀ j, j < n → j ≠ i → g j = f j) : ((List.range n).map f).set i (g i) = (List.range n).map g := by
  apply List.ext_getElem?
  intro j
  by_cases e : j = i
  · subst e
    rw [List.getElem?_set_self (by simpa using h)]
    simp [h]
  · rw [List.getElem?_set_ne (fun h => e h.symm), List.getElem?_map, List.getElem?_map]
    by_cases hj : j < n
    · simp [hj, hf j hj e]
    · simp [hj]
theorem rng_get {α : Type} (f : Nat → α) {n i : Nat} (h : i < n) : ((List.range n).map f)[i]? = some (f i) := by simp [h]
def leftI (A : Nat) (w : List Nat) (i : Nat) : Nat := A - ((List.range i).map (quoF A w)).sum
theorem sum_range_le (f : Nat → Nat) {i n : Nat} (h : i ≤ n) : ((List.range i).map f).sum ≤ ((List.range n).map f).sum := by
  obtain ⟨k, rfl⟩ : ∃ k, n = i + k := ⟨n - i, by omega⟩
  rw [List.range_add, List.map_append, List.sum_append]; omega
theorem left_step (A : Nat) {w : List Nat} (hS : 0 < w.sum) {i : Nat} (hi : i < w.length) : quoF A w i ≤ leftI A w i ∧ leftI A w (i + 1) = leftI A w i - quoF A w i := by
  have h := sum_range_le (quoF A w) (i := i + 1) (n := w.length) hi
  have e : (List.range w.length).map (quoF A w) = w.map fun x => A * x / w.sum := rest_at A w.sum w fun x => A * x / w.sum
  have hle := left_le A hS
  rw [← e] at hle
  rw [List.range_succ, List.map_append, List.sum_append] at h
  simp only [List.map_cons, List.map_nil, List.sum_cons, List.sum_nil] at h
  unfold leftI
  rw [List.range_succ, List.map_append, List.sum_append]
  simp only [List.map_cons, List.map_nil, List.sum_cons, List.sum_nil]
  omega
theorem left_all (A : Nat) (w : List Nat) : leftI A w w.length = leftQ A w := by
  have e : (List.range w.length).map (quoF A w) = w.map fun x => A * x / w.sum := rest_at A w.sum w fun x => A * x / w.sum
  rw [leftI, e, leftQ]
theorem quo_le {A : Nat} {w : List Nat} {i : Nat} (hS : 0 < w.sum) (hi : i < w.length) : quoF A w i ≤ A := by
  have h1 := le_sum (l := w) (i := i) (x := w.getD i 0) (by simp [List.getD, hi])
  unfold quoF
  rw [Nat.div_le_iff_le_mul_add_pred hS]
  have := Nat.mul_le_mul_left A h1
  rw [Nat.mul_comm w.sum A]; omega
theorem part_le {A : Nat} {w : List Nat} {i : Nat} (hS : 0 < w.sum) (hi : i < w.length) : partF A w i ≤ A + 1 := by
  have := quo_le (A := A) hS hi
  have := plus_le A w i
  unfold partF; omega
theorem hi_lt {A x S : Nat} (hA : A < 18446744073709551616) (hx : x ≤ S) (hS : 0 < S) : A * x / 18446744073709551616 < S := by
  rw [Nat.div_lt_iff_lt_mul (by decide)]
  rcases Nat.eq_zero_or_pos x with h | h
  · subst h; rw [Nat.mul_zero]; omega
  · have h1 : A * x < 18446744073709551616 * x := Nat.mul_lt_mul_of_pos_right hA h
    have h2 : 18446744073709551616 * x ≤ 18446744073709551616 * S := Nat.mul_le_mul_left _ hx
    rw [Nat.mul_comm S]; omega
abbrev SSplit : List V → Option V := FT fun (t : Int × List Int × Unit) => if t.2.1.length ≤ 1000000 ∧ ∀ n, n ∈ t.2.1 → inI n then some (splitS t.1 t.2.1) else none
end Go.Proofs.YtfmeplnoikfndaaDoor
