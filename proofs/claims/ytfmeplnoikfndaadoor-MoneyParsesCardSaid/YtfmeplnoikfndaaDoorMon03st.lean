/- The greatest remainders (plain). -/
import Derived.Lib.Mul64
namespace Go.Proofs.YtfmeplnoikfndaaDoor
set_option linter.all false
set_option linter.all false
def bet (r : Nat → Nat) (x y : Nat) : Bool := decide (r y < r x) || (decide (r x = r y) && decide (x < y))
theorem bet_iff {r : Nat → Nat} {x y : Nat} : bet r x y = true ↔ r y < r x ∨ (r x = r y ∧ x < y) := by
  simp [bet]
theorem bet_irr (r : Nat → Nat) (x : Nat) : bet r x x = false := by
  rw [Bool.eq_false_iff, Ne, bet_iff]; omega
theorem bet_asym {r : Nat → Nat} {x y : Nat} (h : bet r x y = true) : bet r y x = false := by
  rw [bet_iff] at h; rw [Bool.eq_false_iff, Ne, bet_iff]; omega
theorem bet_total {r : Nat → Nat} {x y : Nat} (h : x ≠ y) : bet r x y = true ∨ bet r y x = true := by
  rw [bet_iff, bet_iff]; omega
theorem bet_trans {r : Nat → Nat} {x y z : Nat} (h1 : bet r x y = true) (h2 : bet r y z = true) : bet r x z = true := by
  rw [bet_iff] at *; omega
def rankR (r : Nat → Nat) (n x : Nat) : Nat := (List.range n).countP fun y => bet r y x
theorem rank_at {r : Nat → Nat} {n k x : Nat} {T : List Nat} (hp : T.Perm (List.range n)) (hs : T.Pairwise fun x y => bet r x y = true) (hx : T[k]? = some x) : rankR r n x = k := by
  rw [rankR, ← hp.countP_eq]
  obtain ⟨hk, hx⟩ := List.getElem?_eq_some_iff.1 hx
  have hT : T = T.take k ++ x :: T.drop (k + 1) := by
    conv => lhs; rw [← List.take_append_drop k T, List.drop_eq_getElem_cons hk, hx]
  rw [hT] at hs
  rw [hT, List.countP_append, List.countP_cons]
  obtain ⟨_, h2, h3⟩ := List.pairwise_append.1 hs
  have e1 : (T.take k).countP (fun y => bet r y x) = k := by
    rw [List.countP_eq_length.2 fun y hy => h3 y hy x (by simp), List.length_take]; omega
  have e2 : (T.drop (k + 1)).countP (fun y => bet r y x) = 0 := List.countP_eq_zero.2 fun y hy => by
    rw [bet_asym ((List.pairwise_cons.1 h2).1 y hy)]; simp
  rw [e1, e2, bet_irr]; simp
theorem order_ex (r : Nat → Nat) (n : Nat) : ∃ T : List Nat, T.Perm (List.range n) ∧ T.Pairwise fun x y => bet r x y = true := by
  refine ⟨(List.range n).mergeSort (fun x y => !bet r y x), List.mergeSort_perm _ _, ?_⟩
  have h := List.pairwise_mergeSort (le := fun x y => !bet r y x) (fun a b c h1 h2 => by
    simp only [Bool.not_eq_true'] at *
    cases h : bet r c a with
    | false => rfl
    | true =>
      by_cases e : a = b
      · subst e; rw [h] at h2; exact h2
      · rcases bet_total (r := r) e with g | g
        · have := bet_trans h g; rw [this] at h2; exact h2
        · rw [g] at h1; exact h1) (fun a b => by
    simp only [Bool.or_eq_true, Bool.not_eq_true']
    cases h : bet r b a with
    | false => exact .inl rfl
    | true => exact .inr (bet_asym h)) (List.range n)
  have hn : ((List.range n).mergeSort (fun x y => !bet r y x)).Nodup := (List.mergeSort_perm _ _).nodup_iff.2 List.nodup_range
  refine (h.and hn).imp fun {a b} hab => ?_
  rcases bet_total (r := r) hab.2 with g | g
  · exact g
  · have := hab.1; rw [g] at this; cases this
theorem rank_bet {r : Nat → Nat} {n x y : Nat} (h : bet r x y = true) (hx : x < n) : rankR r n x < rankR r n y := by
  obtain ⟨T, hp, hs⟩ := order_ex r n
  by_cases hy : rankR r n y ≤ rankR r n x
  · exfalso
    have h1 : (List.range n).countP (fun z => bet r z x) + 1 ≤ (List.range n).countP fun z => bet r z y := by
      have e : (List.range n).countP (fun z => bet r z x || decide (z = x)) ≤ (List.range n).countP fun z => bet r z y := List.countP_mono_left fun z _ hz => by
        rw [Bool.or_eq_true, decide_eq_true_eq] at hz
        rcases hz with hz | rfl
        · exact bet_trans hz h
        · exact h
      have e2 : (List.range n).countP (fun z => bet r z x || decide (z = x)) = (List.range n).countP (fun z => bet r z x) + 1 := by
        have hc : (List.range n).countP (fun z => decide (z = x)) = 1 := by
          have := (List.nodup_range (n := n)).count (a := x)
          rw [if_pos (List.mem_range.2 hx), List.count] at this
          rw [← this]
          congr 1
        have hd : ∀ l : List Nat, l.countP (fun z => bet r z x || decide (z = x)) = l.countP (fun z => bet r z x) + l.countP (fun z => decide (z = x)) := by
          intro l
          induction l with
          | nil => rfl
          | cons a l ih =>
            rw [List.countP_cons, List.countP_cons, List.countP_cons, ih]
            by_cases e : a = x
            · subst e; simp [bet_irr]; omega
            · simp [e]; omega
        rw [hd, hc]
      omega
    unfold rankR at hy; omega
  · omega
theorem rank_inj {r : Nat → Nat} {n x y : Nat} (hx : x < n) (hy : y < n) (h : rankR r n x = rankR r n y) : x = y := by
  by_cases e : x = y
  · exact e
  · rcases bet_total (r := r) e with g | g
    · have := rank_bet g hx; omega
    · have := rank_bet g hy; omega
theorem rank_ex {r : Nat → Nat} {n k : Nat} (hk : k < n) : ∃ x, x < n ∧ rankR r n x = k := by
  obtain ⟨T, hp, hs⟩ := order_ex r n
  have hl := hp.length_eq
  rw [List.length_range] at hl
  have hx : T[k]? = some (T[k]'(by omega)) := by simp
  exact ⟨_, List.mem_range.1 (hp.mem_iff.1 (List.mem_of_getElem? hx)), rank_at hp hs hx⟩
theorem rank_best {r : Nat → Nat} {n k x : Nat} (hk : k < n) (hx : x < n) (h1 : k ≤ rankR r n x) (hb : ∀ y, y < n → k ≤ rankR r n y → y = x ∨ bet r x y = true) : rankR r n x = k := by
  obtain ⟨y, hy, hyk⟩ := rank_ex (r := r) hk
  rcases hb y hy (by omega) with rfl | h
  · exact hyk
  · have := rank_bet h hx; omega
theorem sum_divs (A S : Nat) : ∀ w : List Nat, A * w.sum = S * (w.map fun x => A * x / S).sum + (w.map fun x => A * x % S).sum
  | [] => by simp
  | x :: w => by
    have ih := sum_divs A S w
    have e := Nat.div_add_mod (A * x) S
    simp only [List.map_cons, List.sum_cons, Nat.mul_add]
    omega
theorem sum_mods (A : Nat) {S : Nat} (hS : 0 < S) : ∀ w : List Nat, (w.map fun x => A * x % S).sum + w.countP (fun x => decide (A * x % S ≠ 0)) ≤ w.countP (fun x => decide (A * x % S ≠ 0)) * S
  | [] => by simp
  | x :: w => by
    have ih := sum_mods A hS w
    have hm := Nat.mod_lt (A * x) hS
    simp only [List.map_cons, List.sum_cons, List.countP_cons]
    by_cases h : A * x % S = 0
    · have hd : decide (A * x % S ≠ 0) = false := by simp [h]
      rw [hd, h]
      simp only [Bool.false_eq_true, if_false, Nat.add_zero, Nat.zero_add]
      exact ih
    · have hd : decide (A * x % S ≠ 0) = true := decide_eq_true h
      rw [if_pos hd, Nat.add_mul]
      omega
def leftQ (A : Nat) (w : List Nat) : Nat := A - (w.map fun x => A * x / w.sum).sum
theorem left_le (A : Nat) {w : List Nat} (hS : 0 < w.sum) : (w.map fun x => A * x / w.sum).sum ≤ A := by
  have h := sum_divs A w.sum w
  have : w.sum * (w.map fun x => A * x / w.sum).sum ≤ w.sum * A := by rw [Nat.mul_comm w.sum A]; omega
  exact Nat.le_of_mul_le_mul_left this hS
theorem left_nz (A : Nat) {w : List Nat} (hS : 0 < w.sum) : leftQ A w ≤ w.countP (fun x => decide (A * x % w.sum ≠ 0)) ∧ leftQ A w < w.length := by
  have h := sum_divs A w.sum w
  have hle := left_le A hS
  have hm := sum_mods A hS w
  have hc := List.countP_le_length (p := fun x => decide (A * x % w.sum ≠ 0)) (l := w)
  have hn : 0 < w.length := by
    cases w with
    | nil => simp at hS
    | cons => simp
  unfold leftQ
  generalize (w.map fun x => A * x / w.sum).sum = q at *
  generalize (w.map fun x => A * x % w.sum).sum = m at *
  generalize w.countP (fun x => decide (A * x % w.sum ≠ 0)) = z at *
  generalize w.sum = S at *
  obtain ⟨l, rfl⟩ : ∃ l, A = q + l := ⟨A - q, by omega⟩
  rw [Nat.add_sub_cancel_left]
  have e : l * S + z ≤ z * S := by
    rw [Nat.add_mul, Nat.mul_comm q S] at h; omega
  have hlz : l ≤ z := Nat.le_of_mul_le_mul_right (by omega : l * S ≤ z * S) hS
  refine ⟨hlz, ?_⟩
  by_cases hz : z = 0
  · omega
  · have : l ≠ z := fun h => by subst h; omega
    omega
theorem countP_lt : ∀ {n k : Nat}, k ≤ n → (List.range n).countP (fun i => decide (i < k)) = k
  | 0, k, h => by simp; omega
  | n + 1, k, h => by
    rw [List.range_succ, List.countP_append]
    by_cases e : k = n + 1
    · subst e
      have : (List.range n).countP (fun i => decide (i < n + 1)) = n := by
        rw [List.countP_eq_length.2 fun a ha => by have := List.mem_range.1 ha; simp; omega, List.length_range]
      rw [this]; simp
    · rw [countP_lt (n := n) (k := k) (by omega)]; simp; omega
theorem rank_count {r : Nat → Nat} {n k : Nat} (hk : k ≤ n) : (List.range n).countP (fun i => decide (rankR r n i < k)) = k := by
  obtain ⟨T, hp, hs⟩ := order_ex r n
  have hT : T.map (rankR r n) = List.range n := by
    apply List.ext_getElem?
    intro i
    rw [List.getElem?_map]
    have hl := hp.length_eq
    rw [List.length_range] at hl
    by_cases hi : i < n
    · have hx : T[i]? = some (T[i]'(by omega)) := by simp
      rw [hx, Option.map_some, rank_at hp hs hx]; simp [hi]
    · rw [List.getElem?_eq_none (by omega), List.getElem?_eq_none (by simp; omega)]; rfl
  rw [← hp.countP_eq]
  have := countP_lt hk
  rw [← hT, List.countP_map] at this
  exact this
theorem rest_at (A S : Nat) (w : List Nat) (f : Nat → Nat) : (List.range w.length).map (fun i => f (w.getD i 0)) = w.map f := by
  apply List.ext_getElem?
  intro i
  rw [List.getElem?_map, List.getElem?_map]
  by_cases hi : i < w.length
  · simp [hi, List.getD]
  · rw [List.getElem?_eq_none (by simp; omega), List.getElem?_eq_none (by omega)]; rfl
def restF (A : Nat) (w : List Nat) (i : Nat) : Nat := A * w.getD i 0 % w.sum
def quoF (A : Nat) (w : List Nat) (i : Nat) : Nat := A * w.getD i 0 / w.sum
def plusF (A : Nat) (w : List Nat) (i : Nat) : Nat := if rankR (restF A w) w.length i < leftQ A w then 1 else 0
def partF (A : Nat) (w : List Nat) (i : Nat) : Nat := quoF A w i + plusF A w i
theorem sum_add {l : List Nat} {f g : Nat → Nat} : (l.map fun i => f i + g i).sum = (l.map f).sum + (l.map g).sum := by
  induction l with
  | nil => rfl
  | cons a l ih => simp [ih]; omega
theorem sum_count {l : List Nat} {p : Nat → Prop} [DecidablePred p] : (l.map fun i => if p i then 1 else 0).sum = l.countP (fun i => decide (p i)) := by
  induction l with
  | nil => rfl
  | cons a l ih => simp only [List.map_cons, List.sum_cons, ih, List.countP_cons, decide_eq_true_eq]; omega
theorem parts_sum (A : Nat) {w : List Nat} (hS : 0 < w.sum) : ((List.range w.length).map (partF A w)).sum = A := by
  show ((List.range w.length).map fun i => quoF A w i + plusF A w i).sum = A
  rw [sum_add]
  have h1 : (List.range w.length).map (quoF A w) = w.map fun x => A * x / w.sum := rest_at A w.sum w fun x => A * x / w.sum
  have h2 : ((List.range w.length).map (plusF A w)).sum = leftQ A w := by
    show ((List.range w.length).map fun i => if rankR (restF A w) w.length i < leftQ A w then 1 else 0).sum = _
    rw [sum_count, rank_count (Nat.le_of_lt (left_nz A hS).2)]
  have := left_le A hS
  rw [h1, h2]; unfold leftQ; omega
theorem plus_le (A : Nat) (w : List Nat) (i : Nat) : plusF A w i ≤ 1 := by unfold plusF; split <;> omega
theorem part_zero (A : Nat) {w : List Nat} (hS : 0 < w.sum) {i : Nat} (hi : i < w.length) (h0 : w.getD i 0 = 0) : partF A w i = 0 := by
  have h1 := (left_nz A hS).1
  have hr : restF A w i = 0 := by rw [restF, h0, Nat.mul_zero, Nat.zero_mod]
  have h2 : w.countP (fun x => decide (A * x % w.sum ≠ 0)) ≤ rankR (restF A w) w.length i := by
    have e : w.countP (fun x => decide (A * x % w.sum ≠ 0)) = (List.range w.length).countP (fun y => decide (restF A w y ≠ 0)) := by
      have hw := rest_at A w.sum w id
      rw [List.map_id] at hw
      generalize hS' : w.sum = S
      have e2 : ∀ l : List Nat, l = w → l.countP (fun x => decide (A * x % S ≠ 0)) = w.countP (fun x => decide (A * x % S ≠ 0)) := fun l h => by rw [h]
      rw [← e2 _ hw, List.countP_map]
      have e3 : (fun y => decide (restF A w y ≠ 0)) = fun y => decide (A * w.getD y 0 % S ≠ 0) := by
        funext y; rw [restF, hS']
      rw [e3]; rfl
    rw [e, rankR]
    refine List.countP_mono_left fun y _ hy => ?_
    rw [bet_iff, hr]
    rw [decide_eq_true_eq] at hy
    omega
  have hp : plusF A w i = 0 := by unfold plusF; rw [if_neg (by omega)]
  rw [partF, hp, quoF, h0, Nat.mul_zero, Nat.zero_div]
theorem part_eq (A : Nat) (w : List Nat) {i k : Nat} (h : w.getD i 0 = w.getD k 0) : partF A w i ≤ partF A w k + 1 := by
  have h1 := plus_le A w i
  have : quoF A w i = quoF A w k := by rw [quoF, quoF, h]
  unfold partF; omega
theorem part_mono (A : Nat) {w : List Nat} (hS : 0 < w.sum) {i k : Nat} (hi : i < w.length) (h : w.getD k 0 < w.getD i 0) : partF A w k ≤ partF A w i := by
  have hAw : A * w.getD k 0 ≤ A * w.getD i 0 := Nat.mul_le_mul_left _ (Nat.le_of_lt h)
  have hq : quoF A w k ≤ quoF A w i := Nat.div_le_div_right hAw
  have h1 := plus_le A w k
  by_cases e : quoF A w k = quoF A w i
  · by_cases hA : A = 0
    · subst hA
      have z : ∀ x, restF 0 w x = 0 := fun x => by simp [restF]
      have hl : leftQ 0 w = 0 := by simp [leftQ]
      have : plusF 0 w k = 0 := by unfold plusF; rw [hl, if_neg (by omega)]
      unfold partF; omega
    · have hr : restF A w k < restF A w i := by
        have e1 := Nat.div_add_mod (A * w.getD k 0) w.sum
        have e2 := Nat.div_add_mod (A * w.getD i 0) w.sum
        have e3 : A * w.getD k 0 < A * w.getD i 0 := Nat.mul_lt_mul_of_pos_left h (by omega)
        unfold quoF at e
        unfold restF
        rw [e] at e1
        omega
      have hb : bet (restF A w) i k = true := bet_iff.2 (.inl hr)
      have hrk := rank_bet (n := w.length) hb hi
      have : plusF A w k ≤ plusF A w i := by
        unfold plusF
        split
        · rw [if_pos (by omega)]; exact Nat.le_refl _
        · omega
      unfold partF; omega
  · unfold partF; omega
end Go.Proofs.YtfmeplnoikfndaaDoor
