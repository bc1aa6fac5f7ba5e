/-
  Plain facts about lists for a stable sort in place: swaps, rotations, merging of two runs.
-/
import Derived.Test.YtfmeplnoikfndaaDoorIdlM4
namespace Go.Idl.Stab
set_option linter.all false
variable {α : Type}
theorem set_mid (P : List α) (x y : α) (R : List α) : (P ++ x :: R).set P.length y = P ++ y :: R := by
  rw [List.set_append_right _ _ (Nat.le_refl _)]; simp
theorem get_mid (P : List α) (x : α) (R : List α) : (P ++ x :: R)[P.length]? = some x := by simp
theorem set_mid' {P : List α} {n : Nat} (h : P.length = n) (x y : α) (R : List α) : (P ++ x :: R).set n y = P ++ y :: R := by subst h; exact set_mid P x y R
theorem get_mid' {P : List α} {n : Nat} (h : P.length = n) (x : α) (R : List α) : (P ++ x :: R)[n]? = some x := by subst h; exact get_mid P x R
theorem swap_two {P M R : List α} {i j : Nat} (x y : α) (hi : P.length = i) (hj : i + 1 + M.length = j) : ((P ++ x :: (M ++ y :: R)).set i y).set j x = P ++ y :: (M ++ x :: R) := by
  rw [set_mid' hi]
  have : P ++ y :: (M ++ y :: R) = (P ++ y :: M) ++ y :: R := by simp
  rw [this, set_mid' (by simp; omega)]
  simp
theorem swap_two' {P M R : List α} {i j : Nat} (x y : α) (hi : P.length = i) (hj : i + 1 + M.length = j) : ((P ++ x :: (M ++ y :: R)).set j x).set i y = P ++ y :: (M ++ x :: R) := by
  rw [List.set_comm _ _ (by omega)]
  exact swap_two x y hi hj
theorem get_snd {P M R : List α} {i j : Nat} (x y : α) (hi : P.length = i) (hj : i + 1 + M.length = j) : (P ++ x :: (M ++ y :: R))[j]? = some y := by
  have : P ++ x :: (M ++ y :: R) = (P ++ x :: M) ++ y :: R := by simp
  rw [this]
  exact get_mid' (by simp; omega) y R
def swR (P X M Y R : List α) (i : Nat) : List α := P ++ Y.take i ++ (X.drop i ++ M ++ (X.take i ++ Y.drop i)) ++ R
theorem swR_zero (P X M Y R : List α) : swR P X M Y R 0 = P ++ X ++ M ++ Y ++ R := by simp [swR]
theorem swR_end {P X M Y R : List α} {n : Nat} (hx : X.length = n) (hy : Y.length = n) : swR P X M Y R n = P ++ Y ++ M ++ X ++ R := by
  subst hx
  simp [swR, List.take_of_length_le (Nat.le_of_eq hy), List.drop_eq_nil_of_le (Nat.le_of_eq hy)]
theorem swR_form {P X M Y R : List α} {n i : Nat} {x y : α} (hx : X[i]? = some x) (hy : Y[i]? = some y) :
    swR P X M Y R i = (P ++ Y.take i) ++ x :: ((X.drop (i + 1) ++ M ++ X.take i) ++ y :: (Y.drop (i + 1) ++ R)) ∧ swR P X M Y R (i + 1) = (P ++ Y.take i) ++ y :: ((X.drop (i + 1) ++ M ++ X.take i) ++ x :: (Y.drop (i + 1) ++ R)) := by
  obtain ⟨hx1, hx2⟩ := List.getElem?_eq_some_iff.1 hx
  obtain ⟨hy1, hy2⟩ := List.getElem?_eq_some_iff.1 hy
  have ex : X.drop i = x :: X.drop (i + 1) := by rw [List.drop_eq_getElem_cons hx1, hx2]
  have ey : Y.drop i = y :: Y.drop (i + 1) := by rw [List.drop_eq_getElem_cons hy1, hy2]
  have tx : X.take (i + 1) = X.take i ++ [x] := by rw [List.take_succ, hx]; rfl
  have ty : Y.take (i + 1) = Y.take i ++ [y] := by rw [List.take_succ, hy]; rfl
  constructor
  · simp only [swR, ex, ey, List.append_assoc, List.cons_append]
  · simp only [swR, tx, ty, List.append_assoc, List.cons_append, List.nil_append]
structure Ord (L : α → α → Prop) : Prop where
  trans : ∀ {x y z}, L x y → L y z → L x z
  irrefl : ∀ {x}, ¬ L x x
  total : ∀ {x y}, x ≠ y → L x y ∨ L y x
abbrev Srt (L : α → α → Prop) (l : List α) : Prop := l.Pairwise L
theorem Srt.last {L : α → α → Prop} (o : Ord L) {S : List α} {y x : α} (h : Srt L (S ++ [y])) (hy : L y x) : ∀ s, s ∈ S ++ [y] → L s x := by
  intro s hs
  rw [List.mem_append] at hs
  rcases hs with hs | hs
  · exact o.trans ((List.pairwise_append.1 h).2.2 s hs y (by simp)) hy
  · rw [List.mem_singleton] at hs; subst hs; exact hy
theorem Srt.ins {L : α → α → Prop} {S1 S2 : List α} {x : α} (h : Srt L (S1 ++ S2)) (h1 : ∀ s, s ∈ S1 → L s x) (h2 : ∀ s, s ∈ S2 → L x s) : Srt L (S1 ++ x :: S2) := by
  rw [Srt, List.pairwise_append] at h ⊢
  obtain ⟨a, b, c⟩ := h
  refine ⟨a, List.pairwise_cons.2 ⟨h2, b⟩, fun s hs t ht => ?_⟩
  rcases List.mem_cons.1 ht with rfl | ht
  · exact h1 s hs
  · exact c s hs t ht
theorem Srt.glue {L : α → α → Prop} {A B : List α} (ha : Srt L A) (hb : Srt L B) (h : ∀ x, x ∈ A → ∀ y, y ∈ B → L x y) : Srt L (A ++ B) := List.pairwise_append.2 ⟨ha, hb, fun x hx y hy => h x hx y hy⟩
theorem Srt.left {L : α → α → Prop} {A B : List α} (h : Srt L (A ++ B)) : Srt L A := (List.pairwise_append.1 h).1
theorem Srt.right {L : α → α → Prop} {A B : List α} (h : Srt L (A ++ B)) : Srt L B := (List.pairwise_append.1 h).2.1
theorem Srt.across {L : α → α → Prop} {A B : List α} (h : Srt L (A ++ B)) {x y : α} (hx : x ∈ A) (hy : y ∈ B) : L x y := (List.pairwise_append.1 h).2.2 x hx y hy
theorem Srt.get {L : α → α → Prop} {A : List α} (h : Srt L A) {i j : Nat} {x y : α} (hx : A[i]? = some x) (hy : A[j]? = some y) (hij : i < j) : L x y := by
  obtain ⟨a1, a2⟩ := List.getElem?_eq_some_iff.1 hx
  obtain ⟨b1, b2⟩ := List.getElem?_eq_some_iff.1 hy
  have := List.pairwise_iff_getElem.1 h i j a1 b1 hij
  rwa [a2, b2] at this
structure Cut (p : α → Prop) (A : List α) (i j : Nat) : Prop where
  lo : ∀ k x, A[k]? = some x → k < i → p x
  hi : ∀ k x, A[k]? = some x → j ≤ k → ¬ p x
theorem Cut.init (p : α → Prop) (A : List α) : Cut p A 0 A.length := ⟨fun k x _ h => by omega, fun k x h hk => by have := (List.getElem?_eq_some_iff.1 h).1; omega⟩
theorem Cut.up {p : α → Prop} {A : List α} {i j h : Nat} {x : α} (c : Cut p A i j) (hx : A[h]? = some x) (hp : p x) (hmono : ∀ k y, A[k]? = some y → k < h → p y) : Cut p A (h + 1) j := ⟨fun k y hy hk => by
    rcases Nat.lt_or_ge k h with h1 | h1
    · exact hmono k y hy h1
    · have : k = h := by omega
      subst this; rw [hx] at hy; cases hy; exact hp, c.hi⟩
theorem Cut.down {p : α → Prop} {A : List α} {i j h : Nat} {x : α} (c : Cut p A i j) (hx : A[h]? = some x) (hp : ¬ p x) (hmono : ∀ k y, A[k]? = some y → h < k → ¬ p y) : Cut p A i h := ⟨c.lo, fun k y hy hk => by
    rcases Nat.lt_or_ge h k with h1 | h1
    · exact hmono k y hy h1
    · have : k = h := by omega
      subst this; rw [hx] at hy; cases hy; exact hp⟩
theorem Cut.parts {p : α → Prop} {A : List α} {i : Nat} (c : Cut p A i i) : (∀ x, x ∈ A.take i → p x) ∧ ∀ x, x ∈ A.drop i → ¬ p x := by
  constructor
  · intro x hx
    obtain ⟨k, hk⟩ := List.getElem?_of_mem hx
    rw [List.getElem?_take] at hk
    split at hk
    · rename_i h; exact c.lo k x hk h
    · cases hk
  · intro x hx
    obtain ⟨k, hk⟩ := List.getElem?_of_mem hx
    rw [List.getElem?_drop] at hk
    exact c.hi (i + k) x hk (by omega)
theorem merge_one_left {L : α → α → Prop} (o : Ord L) {x : α} {B : List α} {i : Nat} (hB : Srt L B) (hne : ∀ y, y ∈ B → x ≠ y) (c : Cut (fun y => L y x) B i i) : Srt L (B.take i ++ x :: B.drop i) := by
  obtain ⟨c1, c2⟩ := c.parts
  have hB' : Srt L (B.take i ++ B.drop i) := by rw [List.take_append_drop]; exact hB
  refine hB'.ins c1 fun s hs => ?_
  rcases o.total (hne s (List.mem_of_mem_drop hs)) with h | h
  · exact h
  · exact absurd h (c2 s hs)
theorem merge_one_right {L : α → α → Prop} (o : Ord L) {y : α} {A : List α} {i : Nat} (hA : Srt L A) (hne : ∀ x, x ∈ A → x ≠ y) (c : Cut (fun x => ¬ L y x) A i i) : Srt L (A.take i ++ y :: A.drop i) := by
  obtain ⟨c1, c2⟩ := c.parts
  have hA' : Srt L (A.take i ++ A.drop i) := by rw [List.take_append_drop]; exact hA
  refine hA'.ins (fun s hs => ?_) fun s hs => ?_
  · rcases o.total (hne s (List.mem_of_mem_take hs)) with h | h
    · exact h
    · exact absurd h (c1 s hs)
  · exact Classical.not_not.1 (c2 s hs)
theorem merge_mid {L : α → α → Prop} {A B C D : List α} {s t : Nat} (hs : s ≤ A.length) (ht : t ≤ B.length) (hA : Srt L A) (hB : Srt L B)
    (h1 : ∀ x y, x ∈ A.take s → y ∈ B.drop t → L x y) (h2 : ∀ x y, x ∈ A.drop s → y ∈ B.take t → L y x)
    (hC : C.Perm (A.take s ++ B.take t)) (sC : Srt L C) (hD : D.Perm (A.drop s ++ B.drop t)) (sD : Srt L D) : Srt L (C ++ D) ∧ (C ++ D).Perm (A ++ B) := by
  have hA' : Srt L (A.take s ++ A.drop s) := by rw [List.take_append_drop]; exact hA
  have hB' : Srt L (B.take t ++ B.drop t) := by rw [List.take_append_drop]; exact hB
  refine ⟨sC.glue sD fun x hx y hy => ?_, ?_⟩
  · have hx' := hC.mem_iff.1 hx
    have hy' := hD.mem_iff.1 hy
    rw [List.mem_append] at hx' hy'
    rcases hx' with hx' | hx' <;> rcases hy' with hy' | hy'
    · exact hA'.across hx' hy'
    · exact h1 x y hx' hy'
    · exact h2 y x hy' hx'
    · exact hB'.across hx' hy'
  · refine (hC.append hD).trans ?_
    have e : A ++ B = (A.take s ++ A.drop s) ++ (B.take t ++ B.drop t) := by rw [List.take_append_drop, List.take_append_drop]
    rw [e, List.append_assoc, List.append_assoc]
    refine List.Perm.append_left _ ?_
    rw [← List.append_assoc, ← List.append_assoc]
    exact List.Perm.append_right _ List.perm_append_comm
structure Seek (L : α → α → Prop) (A B : List α) (a mid lo0 hi0 i j : Nat) : Prop where
  lo : ∀ c x y, lo0 ≤ c → c < i → A[c - a]? = some x → B[mid - 1 - c]? = some y → ¬ L y x
  hi : ∀ c x y, j ≤ c → c < hi0 → A[c - a]? = some x → B[mid - 1 - c]? = some y → L y x
theorem Seek.init (L : α → α → Prop) (A B : List α) (a mid lo0 hi0 : Nat) : Seek L A B a mid lo0 hi0 lo0 hi0 := ⟨fun c _ _ h1 h2 => by omega, fun c _ _ h1 h2 => by omega⟩
theorem Seek.mono {L : α → α → Prop} (o : Ord L) {A B : List α} {a mid c c' : Nat} (hA : Srt L A) (hB : Srt L B) (hac : a ≤ c) (hcc : c < c') (hcm : c' < mid) {x y x' y' : α} (hx : A[c - a]? = some x) (hy : B[mid - 1 - c]? = some y) (hx' : A[c' - a]? = some x') (hy' : B[mid - 1 - c']? = some y') (h : L y x) : L y' x' :=
  o.trans (hB.get hy' hy (by omega)) (o.trans h (hA.get hx hx' (by omega)))
theorem Seek.up {L : α → α → Prop} (o : Ord L) {A B : List α} {a mid lo0 hi0 i j c : Nat} (s : Seek L A B a mid lo0 hi0 i j) (hA : Srt L A) (hB : Srt L B) (h0 : a ≤ lo0) (hm : c < mid) {x y : α} (hx : A[c - a]? = some x) (hy : B[mid - 1 - c]? = some y) (h : ¬ L y x) : Seek L A B a mid lo0 hi0 (c + 1) j :=
  ⟨fun c' x' y' h1 h2 hx' hy' hl => by
    rcases Nat.lt_or_ge c' c with g | g
    · exact h (Seek.mono o hA hB (by omega) g hm hx' hy' hx hy hl)
    · have : c' = c := by omega
      subst this; rw [hx] at hx'; rw [hy] at hy'; cases hx'; cases hy'; exact h hl, s.hi⟩
theorem Seek.down {L : α → α → Prop} (o : Ord L) {A B : List α} {a mid lo0 hi0 i j c : Nat} (s : Seek L A B a mid lo0 hi0 i j) (hA : Srt L A) (hB : Srt L B) (h0 : a ≤ c) (hm : hi0 ≤ mid) {x y : α} (hx : A[c - a]? = some x) (hy : B[mid - 1 - c]? = some y) (h : L y x) : Seek L A B a mid lo0 hi0 i c :=
  ⟨s.lo, fun c' x' y' h1 h2 hx' hy' => by
    rcases Nat.lt_or_ge c c' with g | g
    · exact Seek.mono o hA hB h0 g (by omega) hx hy hx' hy' h
    · have : c' = c := by omega
      subst this; rw [hx] at hx'; rw [hy] at hy'; cases hx'; cases hy'; exact h⟩
theorem Seek.cut {L : α → α → Prop} (o : Ord L) {A B : List α} (hA : Srt L A) (hB : Srt L B) (hne : ∀ x, x ∈ A → ∀ y, y ∈ B → x ≠ y) {a m b mid lo0 hi0 st : Nat} (hA' : a + A.length = m) (hB' : m + B.length = b) (hmid : mid = (a + b) / 2)
    (hs : (mid < m ∧ lo0 = mid + m - b ∧ hi0 = mid) ∨ (m ≤ mid ∧ lo0 = a ∧ hi0 = m)) (h0 : lo0 ≤ st) (h1 : st ≤ hi0) (s : Seek L A B a mid lo0 hi0 st st) :
    (∀ x y, x ∈ A.take (st - a) → y ∈ B.drop (mid - st) → L x y) ∧ ∀ x y, x ∈ A.drop (st - a) → y ∈ B.take (mid - st) → L y x := by
  constructor
  · intro x y hx hy
    obtain ⟨i, hi⟩ := List.getElem?_of_mem hx
    obtain ⟨j, hj⟩ := List.getElem?_of_mem hy
    rw [List.getElem?_take] at hi
    rw [List.getElem?_drop] at hj
    split at hi
    · rename_i hi'
      have hj' := (List.getElem?_eq_some_iff.1 hj).1
      have hi2 := (List.getElem?_eq_some_iff.1 hi).1
      obtain ⟨u, hu⟩ : ∃ u, A[st - 1 - a]? = some u := ⟨A[st - 1 - a]'(by omega), by simp⟩
      obtain ⟨v, hv⟩ : ∃ v, B[mid - 1 - (st - 1)]? = some v := ⟨B[mid - 1 - (st - 1)]'(by omega), by simp⟩
      have huv : L u v := by
        have hn := s.lo (st - 1) u v (by omega) (by omega) hu hv
        rcases o.total (hne u (List.mem_of_getElem? hu) v (List.mem_of_getElem? hv)) with g | g
        · exact g
        · exact absurd g hn
      have e1 : x = u ∨ L x u := by
        rcases Nat.lt_or_ge i (st - 1 - a) with g | g
        · exact .inr (hA.get hi hu g)
        · have : i = st - 1 - a := by omega
          subst this; rw [hi] at hu; cases hu; exact .inl rfl
      have e2 : v = y ∨ L v y := by
        rcases Nat.lt_or_ge (mid - 1 - (st - 1)) (mid - st + j) with g | g
        · exact .inr (hB.get hv hj g)
        · have : mid - st + j = mid - 1 - (st - 1) := by omega
          rw [this] at hj; rw [hj] at hv; cases hv; exact .inl rfl
      rcases e1 with rfl | e1 <;> rcases e2 with rfl | e2
      · exact huv
      · exact o.trans huv e2
      · exact o.trans e1 huv
      · exact o.trans e1 (o.trans huv e2)
    · cases hi
  · intro x y hx hy
    obtain ⟨i, hi⟩ := List.getElem?_of_mem hx
    obtain ⟨j, hj⟩ := List.getElem?_of_mem hy
    rw [List.getElem?_drop] at hi
    rw [List.getElem?_take] at hj
    split at hj
    · rename_i hj'
      have hi' := (List.getElem?_eq_some_iff.1 hi).1
      have hj2 := (List.getElem?_eq_some_iff.1 hj).1
      obtain ⟨u, hu⟩ : ∃ u, A[st - a]? = some u := ⟨A[st - a]'(by omega), by simp⟩
      obtain ⟨v, hv⟩ : ∃ v, B[mid - 1 - st]? = some v := ⟨B[mid - 1 - st]'(by omega), by simp⟩
      have huv : L v u := s.hi st u v (Nat.le_refl _) (by omega) hu hv
      have e1 : u = x ∨ L u x := by
        rcases Nat.lt_or_ge (st - a) (st - a + i) with g | g
        · exact .inr (hA.get hu hi g)
        · have : st - a + i = st - a := by omega
          rw [this] at hi; rw [hi] at hu; cases hu; exact .inl rfl
      have e2 : y = v ∨ L y v := by
        rcases Nat.lt_or_ge j (mid - 1 - st) with g | g
        · exact .inr (hB.get hj hv g)
        · have : j = mid - 1 - st := by omega
          subst this; rw [hj] at hv; cases hv; exact .inl rfl
      rcases e1 with rfl | e1 <;> rcases e2 with rfl | e2
      · exact huv
      · exact o.trans e2 huv
      · exact o.trans huv e1
      · exact o.trans e2 (o.trans huv e1)
    · cases hj
def seg (l : List α) (lo hi : Nat) : List α := (l.drop lo).take (hi - lo)
theorem seg_len {l : List α} {lo hi : Nat} (h : hi ≤ l.length) : (seg l lo hi).length = hi - lo := by simp [seg]; omega
theorem seg_get (l : List α) (lo hi i : Nat) : (seg l lo hi)[i]? = if i < hi - lo then l[lo + i]? else none := by
  simp only [seg, List.getElem?_take, List.getElem?_drop]
theorem seg_parts (l : List α) {lo hi : Nat} (h : lo ≤ hi) : l = l.take lo ++ seg l lo hi ++ l.drop hi := by
  have : (l.drop lo).drop (hi - lo) = l.drop hi := by rw [List.drop_drop]; congr 1; omega
  rw [seg, List.append_assoc, ← this, List.take_append_drop, List.take_append_drop]
theorem seg_two (l : List α) {lo mid hi : Nat} (h1 : lo ≤ mid) (h2 : mid ≤ hi) : seg l lo hi = seg l lo mid ++ seg l mid hi := by
  have : seg l mid hi = ((l.drop lo).drop (mid - lo)).take (hi - mid) := by rw [seg, List.drop_drop]; congr 2; omega
  rw [this, seg, seg, show hi - lo = (mid - lo) + (hi - mid) by omega, List.take_add]
structure Same (l l' : List α) (lo hi : Nat) : Prop where
  len : l'.length = l.length
  far : ∀ i, i < lo ∨ hi ≤ i → l'[i]? = l[i]?
theorem Same.refl (l : List α) (lo hi : Nat) : Same l l lo hi := ⟨rfl, fun _ _ => rfl⟩
theorem Same.mk' {P S S' R : List α} {lo hi : Nat} (h1 : P.length = lo) (h2 : lo + S.length = hi) (h3 : S'.length = S.length) : Same (P ++ S ++ R) (P ++ S' ++ R) lo hi := by
  refine ⟨by simp [h3], fun i hi' => ?_⟩
  subst h1
  rcases hi' with h | h
  · rw [List.append_assoc, List.append_assoc, List.getElem?_append_left h, List.getElem?_append_left h]
  · rw [List.getElem?_append_right (by simp; omega), List.getElem?_append_right (by simp; omega)]
    simp [h3]
theorem Same.seg {l l' : List α} {lo hi a b : Nat} (h : Same l l' lo hi) (hd : b ≤ lo ∨ hi ≤ a) : seg l' a b = seg l a b := by
  apply List.ext_getElem?
  intro i
  rw [seg_get, seg_get]
  split
  · exact h.far (a + i) (by omega)
  · rfl
theorem seg_mid {P S R : List α} {lo hi : Nat} (h1 : P.length = lo) (h2 : lo + S.length = hi) : seg (P ++ S ++ R) lo hi = S := by
  subst h1
  subst h2
  simp [seg]
structure Run (L : Nat → Nat → Prop) (l : List Nat) (lo hi : Nat) : Prop where
  perm : (seg l lo hi).Perm (List.range' lo (hi - lo))
  srt : Srt L (seg l lo hi)
theorem Run.mem {L : Nat → Nat → Prop} {l : List Nat} {lo hi : Nat} (r : Run L l lo hi) {x : Nat} (hx : x ∈ seg l lo hi) : lo ≤ x ∧ x < hi := by
  have := r.perm.mem_iff.1 hx
  rw [List.mem_range'] at this
  obtain ⟨i, h1, h2⟩ := this
  omega
theorem Run.keep {L : Nat → Nat → Prop} {l l' : List Nat} {a b lo hi : Nat} (r : Run L l a b) (h : Same l l' lo hi) (hd : b ≤ lo ∨ hi ≤ a) : Run L l' a b := by
  have e := h.seg hd
  exact ⟨by rw [e]; exact r.perm, by rw [e]; exact r.srt⟩
theorem Run.merge {L : Nat → Nat → Prop} {l l' : List Nat} {a m b : Nat} (h1 : a ≤ m) (h2 : m ≤ b) (r1 : Run L l a m) (r2 : Run L l m b) (hp : (seg l' a b).Perm (seg l a m ++ seg l m b)) (hs : Srt L (seg l' a b)) : Run L l' a b := by
  refine ⟨hp.trans ((r1.perm.append r2.perm).trans ?_), hs⟩
  have : List.range' a (b - a) = List.range' a (m - a) ++ List.range' m (b - m) := by
    rw [show b - a = (m - a) + (b - m) by omega, ← List.range'_append_1, show a + (m - a) = m by omega]
  rw [this]
def Runs (L : Nat → Nat → Prop) (l : List Nat) (n s : Nat) : Prop := ∀ t, t * s < n → Run L l (t * s) (min ((t + 1) * s) n)
theorem Run.whole {L : Nat → Nat → Prop} {l : List Nat} {n : Nat} (hl : l.length = n) (r : Run L l 0 n) : l.Perm (List.range n) ∧ Srt L l := by
  have e : seg l 0 n = l := by subst hl; simp [Stab.seg]
  have h1 := r.perm
  have h2 := r.srt
  rw [e] at h1 h2
  refine ⟨?_, h2⟩
  rw [List.range_eq_range']
  simpa using h1
structure Mix (L : Nat → Nat → Prop) (l : List Nat) (n s q : Nat) : Prop where
  big : ∀ t, t < q → Run L l (t * (2 * s)) ((t + 1) * (2 * s))
  small : ∀ t, 2 * q ≤ t → t * s < n → Run L l (t * s) (min ((t + 1) * s) n)
  le : q * (2 * s) ≤ n
theorem Mix.init {L : Nat → Nat → Prop} {l : List Nat} {n s : Nat} (h : Runs L l n s) : Mix L l n s 0 := ⟨fun t ht => by omega, fun t _ ht => h t ht, by omega⟩
theorem two_mul (q s : Nat) : q * (2 * s) = 2 * q * s := by rw [← Nat.mul_assoc, Nat.mul_comm q 2]
theorem Mix.runs {L : Nat → Nat → Prop} {l : List Nat} {n s q : Nat} (h : Mix L l n s q) (hs : 0 < s) {b : Nat} (hm : q * (2 * s) + s < n) (hb : b = min (q * (2 * s) + s + s) n) : Run L l (q * (2 * s)) (q * (2 * s) + s) ∧ Run L l (q * (2 * s) + s) b := by
  have e := two_mul q s
  have r1 := h.small (2 * q) (Nat.le_refl _) (by omega)
  have r2 := h.small (2 * q + 1) (by omega) (by rw [Nat.add_mul]; omega)
  rw [Nat.add_mul, Nat.one_mul] at r1
  rw [show 2 * q + 1 + 1 = 2 * q + 2 by omega, Nat.add_mul, Nat.add_mul, Nat.one_mul] at r2
  rw [← e] at r1 r2
  refine ⟨by rw [Nat.min_eq_left (by omega)] at r1; exact r1, ?_⟩
  rw [hb, show q * (2 * s) + s + s = q * (2 * s) + 2 * s by omega]
  exact r2
theorem Mix.step {L : Nat → Nat → Prop} {l l' : List Nat} {n s q : Nat} (h : Mix L l n s q) (hs : 0 < s) (hb : q * (2 * s) + 2 * s ≤ n) (sm : Same l l' (q * (2 * s)) (q * (2 * s) + 2 * s)) (r : Run L l' (q * (2 * s)) (q * (2 * s) + 2 * s)) : Mix L l' n s (q + 1) := by
  have e := two_mul q s
  refine ⟨fun t ht => ?_, fun t ht htn => ?_, by rw [Nat.add_mul, Nat.one_mul]; exact hb⟩
  · rcases Nat.lt_or_ge t q with g | g
    · refine (h.big t g).keep sm (.inl ?_)
      exact Nat.mul_le_mul_right _ g
    · have : t = q := by omega
      subst this
      rw [Nat.add_mul, Nat.one_mul]
      exact r
  · refine (h.small t (by omega) htn).keep sm (.inr ?_)
    have := Nat.mul_le_mul_right s ht
    rw [Nat.mul_add, Nat.add_mul, ← e] at this
    omega
theorem Mix.done {L : Nat → Nat → Prop} {l l' : List Nat} {n s q : Nat} (h : Mix L l n s q) (hs : 0 < s) (hn : n < q * (2 * s) + 2 * s) (sm : Same l l' (q * (2 * s)) n) (r : q * (2 * s) < n → Run L l' (q * (2 * s)) n) : Runs L l' n (2 * s) := by
  intro t ht
  rcases Nat.lt_or_ge t q with g | g
  · have h2 : (t + 1) * (2 * s) ≤ q * (2 * s) := Nat.mul_le_mul_right (2 * s) g
    have h3 := h.le
    rw [Nat.min_eq_left (by omega)]
    exact (h.big t g).keep sm (.inl h2)
  · have : t = q := by
      rcases Nat.lt_or_ge q t with g2 | g2
      · have h2 := Nat.mul_le_mul_right (2 * s) g2
        rw [Nat.succ_mul] at h2
        omega
      · omega
    subst this
    rw [Nat.add_mul, Nat.one_mul, Nat.min_eq_right (by omega)]
    exact r ht
theorem Mix.rest {L : Nat → Nat → Prop} {l : List Nat} {n s q : Nat} (h : Mix L l n s q) (hn : n ≤ q * (2 * s) + s) (h1 : q * (2 * s) < n) : Run L l (q * (2 * s)) n := by
  have e := two_mul q s
  have r1 := h.small (2 * q) (Nat.le_refl _) (by omega)
  rw [Nat.add_mul, Nat.one_mul, ← e, Nat.min_eq_right (by omega)] at r1
  exact r1
theorem Runs.whole {L : Nat → Nat → Prop} {l : List Nat} {n s : Nat} (h : Runs L l n s) (hs : n ≤ s) (hl : l.length = n) : l.Perm (List.range n) ∧ Srt L l := by
  rcases Nat.eq_zero_or_pos n with h0 | h0
  · subst h0
    have : l = [] := List.eq_nil_of_length_eq_zero hl
    subst this
    exact ⟨.refl _, .nil⟩
  · have := h 0 (by omega)
    rw [Nat.zero_mul, Nat.zero_add, Nat.one_mul, Nat.min_eq_right hs] at this
    exact this.whole hl
structure Blk (L : Nat → Nat → Prop) (l : List Nat) (n s q : Nat) : Prop where
  done : ∀ t, t < q → Run L l (t * s) ((t + 1) * s)
  rest : ∀ i, q * s ≤ i → i < n → l[i]? = some i
  le : q * s ≤ n
theorem Blk.init (L : Nat → Nat → Prop) (n s : Nat) : Blk L (List.range n) n s 0 := ⟨fun t ht => by omega, fun i _ hi => by simp [hi], by omega⟩
theorem Blk.seg {L : Nat → Nat → Prop} {l : List Nat} {n s q b : Nat} (h : Blk L l n s q) (hb : b ≤ n) : Stab.seg l (q * s) b = List.range' (q * s) (b - q * s) := by
  apply List.ext_getElem?
  intro i
  rw [seg_get]
  split
  · rename_i g
    rw [h.rest _ (by omega) (by omega), List.getElem?_range' g]
    congr 1; omega
  · rename_i g
    symm
    rw [List.getElem?_eq_none_iff]
    simp; omega
theorem Blk.step {L : Nat → Nat → Prop} {l l' : List Nat} {n s q : Nat} (h : Blk L l n s q) (hb : q * s + s ≤ n) (sm : Same l l' (q * s) (q * s + s)) (r : Run L l' (q * s) (q * s + s)) : Blk L l' n s (q + 1) := by
  refine ⟨fun t ht => ?_, fun i hi hin => ?_, by rw [Nat.add_mul, Nat.one_mul]; exact hb⟩
  · rcases Nat.lt_or_ge t q with g | g
    · exact (h.done t g).keep sm (.inl (Nat.mul_le_mul_right _ g))
    · have : t = q := by omega
      subst this
      rw [Nat.add_mul, Nat.one_mul]
      exact r
  · rw [Nat.add_mul, Nat.one_mul] at hi
    rw [sm.far i (.inr hi)]
    exact h.rest i (by omega) hin
theorem Blk.fin {L : Nat → Nat → Prop} {l l' : List Nat} {n s q : Nat} (h : Blk L l n s q) (hs : 0 < s) (hn : n < q * s + s) (sm : Same l l' (q * s) n) (r : Run L l' (q * s) n) : Runs L l' n s := by
  intro t ht
  rcases Nat.lt_or_ge t q with g | g
  · have h2 : (t + 1) * s ≤ q * s := Nat.mul_le_mul_right s g
    have h3 := h.le
    rw [Nat.min_eq_left (by omega)]
    exact (h.done t g).keep sm (.inl h2)
  · have : t = q := by
      rcases Nat.lt_or_ge q t with g2 | g2
      · have h2 := Nat.mul_le_mul_right s g2
        rw [Nat.succ_mul] at h2
        omega
      · omega
    subst this
    rw [Nat.add_mul, Nat.one_mul, Nat.min_eq_right (by omega)]
    exact r
theorem tag_ord {c : Nat → Nat → Int} {N : Nat} (h1 : ∀ x, ¬ c x x < 0) (h2 : ∀ x y z, c x y < 0 → c y z < 0 → c x z < 0) (h3 : ∀ x y z, ¬ c x y < 0 → ¬ c y z < 0 → ¬ c x z < 0) :
    Ord (fun x y => c x y < 0 ∨ (¬ c y x < 0 ∧ x < y)) := by
  refine ⟨?_, ?_, ?_⟩
  · intro x y z hxy hyz
    have asym : ∀ u v, c u v < 0 → ¬ c v u < 0 := fun u v a b => h1 u (h2 u v u a b)
    rcases hxy with a | ⟨a1, a2⟩ <;> rcases hyz with b | ⟨b1, b2⟩
    · exact .inl (h2 _ _ _ a b)
    · refine .inl (Classical.byContradiction fun g => ?_)
      exact h3 x z y g b1 a
    · refine .inl (Classical.byContradiction fun g => ?_)
      exact h3 y x z a1 g b
    · exact .inr ⟨h3 _ _ _ b1 a1, by omega⟩
  · intro x h
    rcases h with h | ⟨_, h⟩
    · exact h1 x h
    · omega
  · intro x y hne
    by_cases a : c x y < 0
    · exact .inl (.inl a)
    · by_cases b : c y x < 0
      · exact .inr (.inl b)
      · rcases Nat.lt_or_gt_of_ne hne with g | g
        · exact .inl (.inr ⟨b, g⟩)
        · exact .inr (.inr ⟨a, g⟩)
theorem tag_test {c : Nat → Nat → Int} {x y : Nat} (h : y < x) : (c x y < 0 ∨ (¬ c y x < 0 ∧ x < y)) ↔ c x y < 0 := ⟨fun g => g.elim id fun g => by omega, .inl⟩
end Go.Idl.Stab
