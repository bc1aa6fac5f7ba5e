/- Records: without one update (plain). -/
import Derived.Test.YtoccifhckpjfaaaRec37h
namespace Go.Proofs.Ytoccifhckpjfaaa
set_option linter.all false
open Go.Idl
set_option maxHeartbeats 4000000
set_option maxRecDepth 100000
/-! ### Readings of two lists -/
theorem mrgL_mem : ∀ (a b l : List Rdg), mrgL a b = some l → ∀ r, r ∈ l ↔ r ∈ a ∨ r ∈ b
  | [], b, l, h, r => by
    rw [mrgL] at h; cases h; simp
  | x :: a, [], l, h, r => by
    rw [mrgL] at h; cases h; simp
  | x :: a, y :: b, l, h, r => by
    rw [mrgL] at h
    cases h1 : decide (x.time < y.time) with
    | true =>
      rw [h1, cond_true] at h
      cases h2 : mrgL a (y :: b) with
      | none => rw [h2] at h; cases h
      | some l' =>
        rw [h2] at h; cases h
        have := mrgL_mem a (y :: b) l' h2 r
        rw [List.mem_cons, this, List.mem_cons, List.mem_cons, or_assoc]
    | false =>
      rw [h1, cond_false] at h
      cases h3 : decide (x.time > y.time) with
      | true =>
        rw [h3, cond_true] at h
        cases h2 : mrgL (x :: a) b with
        | none => rw [h2] at h; cases h
        | some l' =>
          rw [h2] at h; cases h
          have := mrgL_mem (x :: a) b l' h2 r
          rw [List.mem_cons, this, List.mem_cons, List.mem_cons]
          constructor
          · rintro (g | (g | g) | g)
            · exact .inr (.inl g)
            · exact .inl (.inl g)
            · exact .inl (.inr g)
            · exact .inr (.inr g)
          · rintro ((g | g) | g | g)
            · exact .inr (.inl (.inl g))
            · exact .inr (.inl (.inr g))
            · exact .inl g
            · exact .inr (.inr g)
      | false =>
        rw [h3, cond_false] at h
        cases h4 : (!(x.reg == y.reg)) with
        | true => rw [h4, cond_true] at h; cases h
        | false =>
          rw [h4, cond_false] at h
          have hxy : x = y := by
            have e1 : x.reg = y.reg := by simpa using h4
            have e2 : x.time = y.time := by simp at h1 h3; omega
            cases x; cases y; simp_all
          cases h2 : mrgL a b with
          | none => rw [h2] at h; cases h
          | some l' =>
            rw [h2] at h; cases h
            have := mrgL_mem a b l' h2 r
            rw [List.mem_cons, this, List.mem_cons, List.mem_cons, ← hxy]
            constructor
            · rintro (g | g | g)
              · exact .inl (.inl g)
              · exact .inl (.inr g)
              · exact .inr (.inr g)
            · rintro ((g | g) | g | g)
              · exact .inl g
              · exact .inr (.inl g)
              · exact .inl g
              · exact .inr (.inr g)
termination_by a b => a.length + b.length
theorem mrgS_mem {a b : List Rdg} (h : (mrgS a b).2 = 0) (r : Rdg) : r ∈ (mrgS a b).1 ↔ r ∈ a ∨ r ∈ b := by
  unfold mrgS at h ⊢
  cases h1 : (!asc a || !asc b) with
  | true => rw [h1, cond_true] at h; cases h
  | false =>
    rw [h1, cond_false] at h
    cases h2 : mrgL a b with
    | none => rw [h2] at h; cases h
    | some l =>
      rw [h2] at h
      dsimp only at h ⊢
      cases h3 : decide (l.length > 1024) with
      | true => rw [h3, cond_true] at h; cases h
      | false => rw [cond_false, cond_false]; exact mrgL_mem a b l h2 r
theorem mrgE_mem : ∀ {l : List EvD} {acc : List Rdg}, (mrgE acc l).2 = 0 → ∀ r, r ∈ (mrgE acc l).1 ↔ r ∈ acc ∨ ∃ x, x ∈ l ∧ r ∈ x.rds
  | [], acc, _, r => by simp [mrgE]
  | x :: l, acc, h, r => by
    rw [mrgE] at h ⊢
    cases hs : ((mrgS acc x.rds).2 != 0) with
    | true => rw [hs, cond_true] at h; have h' : (mrgS acc x.rds).2 = 0 := h; rw [h'] at hs; cases hs
    | false =>
      rw [hs, cond_false] at h
      rw [cond_false, mrgE_mem h r, mrgS_mem (by simpa using hs) r]
      simp [or_assoc]
/-! ### What a record has -/
structure MakeOk (l : List EvD) (m : Int) (r : RecD) (D : List EvD) (g : List Rdg) : Prop where
  val : ∀ x, x ∈ l → evS x = 0
  srt : D.Pairwise (fun a b => a.seq < b.seq)
  mem : ∀ x, x ∈ D ↔ x ∈ l
  cpl : complS D = true
  bad : badM (hdE D).conn D = false
  mrg : mrgE [] D = (g, 0)
  off : rdOff (hdE D) (ltE D) g = false
  tot : valS g m = 0
  eqn : r = recOf (hdE D) (ltE D) (offS D) g (totL m g)
theorem makeE_ok {D : List EvD} {m : Int} (h : (makeE D m).2 = 0) : complS D = true ∧ badM (hdE D).conn D = false ∧ (mrgE [] D).2 = 0 ∧ rdOff (hdE D) (ltE D) (mrgE [] D).1 = false ∧ valS (mrgE [] D).1 m = 0 ∧ (makeE D m).1 = recOf (hdE D) (ltE D) (offS D) (mrgE [] D).1 (totL m (mrgE [] D).1) := by
  unfold makeE at h ⊢
  cases h1 : complS D
  · rw [h1] at h; cases h
  rw [h1, Bool.not_true, cond_false] at h
  cases h2 : badM (hdE D).conn D
  case true => rw [h2, cond_true] at h; cases h
  rw [h2, cond_false] at h
  cases h3 : ((mrgE [] D).2 != 0)
  case true =>
    rw [h3, cond_true] at h
    exact absurd h (bne_of h3)
  rw [h3, cond_false] at h
  cases h4 : rdOff (hdE D) (ltE D) (mrgE [] D).1
  case true => rw [h4, cond_true] at h; cases h
  rw [h4, cond_false] at h
  cases h5 : ((totS (mrgE [] D).1 m).2 != 0)
  case true =>
    rw [h5, cond_true] at h
    exact absurd h (bne_of h5)
  rw [h5, cond_false] at h
  cases h6 : decide ((totS (mrgE [] D).1 m).1 > 1099511627776)
  case true => rw [h6, cond_true] at h; cases h
  have hv : valS (mrgE [] D).1 m = 0 := by
    have h7 : (totS (mrgE [] D).1 m).2 = 0 := by simpa using h5
    unfold totS at h7
    cases h8 : (valS (mrgE [] D).1 m != 0)
    · simpa using h8
    · rw [h8, cond_true] at h7; exact h7
  have ht : (totS (mrgE [] D).1 m).1 = totL m (mrgE [] D).1 := by rw [totS, hv]; rfl
  refine ⟨rfl, rfl, by simpa using h3, rfl, hv, ?_⟩
  rw [ht]; rfl
theorem make_ok {l : List EvD} {m : Int} (h : (makeS l m).2 = 0) : ∃ D g, MakeOk l m (makeS l m).1 D g := by
  unfold makeS at h ⊢
  cases h1 : decide (l.length = 0)
  case true => rw [h1, cond_true] at h; cases h
  rw [h1, cond_false] at h
  cases h2 : ((orderS l).2 != 0)
  case true =>
    rw [h2, cond_true] at h
    exact absurd h (bne_of h2)
  rw [h2, cond_false] at h
  obtain ⟨o1, o2, o3, o4⟩ := orderS_spec (l := l) (by simpa using h2)
  obtain ⟨e1, e2, e3, e4, e5, e6⟩ := makeE_ok h
  exact ⟨(orderS l).1, (mrgE [] (orderS l).1).1, o1, o3, o4, e1, e2, Prod.ext rfl e3, e4, e5, e6⟩
theorem MakeOk.first {l : List EvD} {m : Int} {r : RecD} {D : List EvD} {g : List Rdg} (h : MakeOk l m r D g) : hdE D ∈ D ∧ (hdE D).seq = 0 := by
  have hc := h.cpl
  rw [complS, Bool.and_eq_true] at hc
  obtain ⟨x, hx, hx0⟩ := List.any_eq_true.1 hc.1
  have hx0 : x.seq = 0 := by simpa using hx0
  cases hD : D with
  | nil => rw [hD] at hx; simp at hx
  | cons z D' =>
    refine ⟨by simp [hdE], ?_⟩
    have hz : 0 ≤ z.seq := (evS_ok (h.val z ((h.mem z).1 (by rw [hD]; simp)))).1
    show z.seq = 0
    have hs := h.srt
    rw [hD] at hx hs
    rcases List.mem_cons.1 hx with rfl | hx
    · exact hx0
    · have := (List.pairwise_cons.1 hs).1 x hx; omega
theorem badM_end {c : Int} : ∀ {D : List EvD} {x : EvD}, badM c D = false → x ∈ D → x.kind = 3 → D.getLast? = some x
  | [], x, _, hx, _ => by simp at hx
  | z :: D, x, h, hx, hk => by
    rw [badM, Bool.or_eq_false_iff, Bool.or_eq_false_iff] at h
    rcases List.mem_cons.1 hx with rfl | hx
    · have h1 := h.1.1
      rw [hk] at h1
      have : D = [] := by
        cases D with
        | nil => rfl
        | cons a b => simp at h1
      rw [this]; rfl
    · have := badM_end h.2 hx hk
      cases D with
      | nil => simp at hx
      | cons a b => rw [List.getLast?_cons_cons]; exact this
theorem MakeOk.last {l : List EvD} {m : Int} {r : RecD} {D : List EvD} {g : List Rdg} (h : MakeOk l m r D g) : ltE D ∈ D ∧ (ltE D).kind = 3 := by
  have hc := h.cpl
  rw [complS, Bool.and_eq_true] at hc
  obtain ⟨x, hx, hx0⟩ := List.any_eq_true.1 hc.2
  have hx0 : x.kind = 3 := by rw [Bool.and_eq_true] at hx0; simpa using hx0.2
  have hl : ltE D = x := by rw [ltE, badM_end h.bad hx hx0]; rfl
  rw [hl]
  exact ⟨hx, hx0⟩
/-- Rows of readings in time. -/
theorem asc_pair : ∀ {l : List Rdg}, asc l = true → l.Pairwise (fun a b => a.time < b.time)
  | [], _ => .nil
  | [x], _ => by simp
  | x :: y :: l, h => by
    rw [asc, Bool.and_eq_true, decide_eq_true_eq] at h
    have ih := asc_pair h.2
    refine List.pairwise_cons.2 ⟨fun z hz => ?_, ih⟩
    rcases List.mem_cons.1 hz with rfl | hz
    · exact h.1
    · have := (List.pairwise_cons.1 ih).1 z hz; have := h.1; omega
theorem totL_tele {m : Int} : ∀ {l : List Rdg} (x : Rdg), (∀ r, r ∈ x :: l → rOk m r = true) → (x :: l).Pairwise (fun a b => a.reg ≤ b.reg) → totL m (x :: l) = ((x :: l).getLast (by simp)).reg - x.reg
  | [], x, _, _ => by simp [totL]
  | y :: l, x, hok, hp => by
    have ih := totL_tele (m := m) y (fun r hr => hok r (List.mem_cons_of_mem _ hr)) (List.pairwise_cons.1 hp).2
    have hxy : x.reg ≤ y.reg := (List.pairwise_cons.1 hp).1 y (by simp)
    have hx := hok x (by simp)
    have hy := hok y (by simp)
    simp only [rOk, Bool.and_eq_true, decide_eq_true_eq] at hx hy
    have hb : bt m x y = y.reg - x.reg := by
      unfold bt
      exact Int.emod_eq_of_lt (by omega) (by omega)
    rw [totL, ih, hb, List.getLast_cons_cons]
    omega
theorem upd_law {l l' : List EvD} {m : Int} (hsub : ∀ x, x ∈ l' → x ∈ l) (hr : (makeS l m).2 = 0) (hx : (makeS l' m).2 = 0) (hmono : (makeS l m).1.rds.Pairwise (fun a b => a.reg ≤ b.reg)) :
    (makeS l m).1.energy = (makeS l' m).1.energy ∧ (makeS l m).1.start = (makeS l' m).1.start ∧ (makeS l m).1.stop = (makeS l' m).1.stop ∧ (makeS l m).1.reason = (makeS l' m).1.reason ∧ (makeS l m).1.token = (makeS l' m).1.token := by
  obtain ⟨D, g, h⟩ := make_ok hr
  obtain ⟨D', g', h'⟩ := make_ok hx
  have hDD : ∀ x, x ∈ D' → x ∈ D := fun x hx => (h.mem x).2 (hsub x ((h'.mem x).1 hx))
  have hf : hdE D' = hdE D := srt_inj h.srt (hDD _ h'.first.1) h.first.1 (by rw [h'.first.2, h.first.2])
  have he : ltE D' = ltE D := by
    have := badM_end h.bad (hDD _ h'.last.1) h'.last.2
    conv => rhs; rw [ltE, this]
    rfl
  rw [h.eqn] at hmono ⊢
  rw [h'.eqn, hf, he]
  have hmono : g.Pairwise (fun a b => a.reg ≤ b.reg) := hmono
  have v := valS_ok h.tot
  have v' := valS_ok h'.tot
  have p := asc_pair v.asc
  have p' := asc_pair v'.asc
  have hgm := mrgE_mem (l := D) (acc := []) (by rw [h.mrg])
  have hgm' := mrgE_mem (l := D') (acc := []) (by rw [h'.mrg])
  rw [h.mrg] at hgm
  rw [h'.mrg] at hgm'
  have hsubg : ∀ r, r ∈ g' → r ∈ g := fun r hr => by
    rcases (hgm' r).1 hr with g1 | ⟨x, hx1, hx2⟩
    · simp at g1
    · exact (hgm r).2 (.inr ⟨x, hDD x hx1, hx2⟩)
  have hinj : ∀ x y, x ∈ g → y ∈ g → x.time = y.time → x = y := fun x y hx hy ht => by
    obtain ⟨i, hi⟩ := List.getElem?_of_mem hx
    obtain ⟨j, hj⟩ := List.getElem?_of_mem hy
    obtain ⟨a1, a2⟩ := List.getElem?_eq_some_iff.1 hi
    obtain ⟨b1, b2⟩ := List.getElem?_eq_some_iff.1 hj
    rcases Nat.lt_trichotomy i j with k | k | k
    · have := List.pairwise_iff_getElem.1 p i j a1 b1 k
      rw [a2, b2] at this; omega
    · subst k; rw [hi] at hj; cases hj; rfl
    · have := List.pairwise_iff_getElem.1 p j i b1 a1 k
      rw [a2, b2] at this; omega
  have hreg : ∀ x y, x ∈ g → y ∈ g → x.time < y.time → x.reg ≤ y.reg := fun x y hx hy ht => by
    obtain ⟨i, hi⟩ := List.getElem?_of_mem hx
    obtain ⟨j, hj⟩ := List.getElem?_of_mem hy
    obtain ⟨a1, a2⟩ := List.getElem?_eq_some_iff.1 hi
    obtain ⟨b1, b2⟩ := List.getElem?_eq_some_iff.1 hj
    rcases Nat.lt_trichotomy i j with k | k | k
    · have := List.pairwise_iff_getElem.1 hmono i j a1 b1 k
      rw [a2, b2] at this; exact this
    · subst k; rw [hi] at hj; cases hj; exact Int.le_refl _
    · have := List.pairwise_iff_getElem.1 p j i b1 a1 k
      rw [a2, b2] at this; omega
  have hmono' : g'.Pairwise (fun a b => a.reg ≤ b.reg) := by
    rw [List.pairwise_iff_getElem] at p' ⊢
    intro i j hi hj hij
    exact hreg _ _ (hsubg _ (List.getElem_mem hi)) (hsubg _ (List.getElem_mem hj)) (p' i j hi hj hij)
  have ho := h.off
  have ho' := h'.off
  rw [hf, he] at ho'
  obtain ⟨x, g1, rfl⟩ : ∃ x g1, g = x :: g1 := by
    cases g with
    | nil => exact absurd rfl v.ne
    | cons x g1 => exact ⟨x, g1, rfl⟩
  obtain ⟨x', g1', rfl⟩ : ∃ x g1, g' = x :: g1 := by
    cases g' with
    | nil => exact absurd rfl v'.ne
    | cons x g1 => exact ⟨x, g1, rfl⟩
  simp only [rdOff, Bool.or_eq_false_iff, List.head?_cons, Option.map_some, Option.getD_some] at ho ho'
  have t1 : x.time = (hdE D).time := by simpa using ho.1.2
  have t1' : x'.time = (hdE D).time := by simpa using ho'.1.2
  have t2 : lastT (x :: g1) = (ltE D).time := by simpa using ho.2
  have t2' : lastT (x' :: g1') = (ltE D).time := by simpa using ho'.2
  have hxx : x' = x := hinj _ _ (hsubg _ (by simp)) (by simp) (by omega)
  have hlast : (x' :: g1').getLast (by simp) = (x :: g1).getLast (by simp) := by
    refine hinj _ _ (hsubg _ (List.getLast_mem _)) (List.getLast_mem _) ?_
    rw [lastT, List.getLast?_eq_some_getLast (by simp)] at t2 t2'
    simp only [Option.map_some, Option.getD_some] at t2 t2'
    omega
  have e1 := totL_tele (m := m) x v.ok hmono
  have e2 := totL_tele (m := m) x' v'.ok hmono'
  refine ⟨?_, rfl, rfl, rfl, rfl⟩
  show totL m (x :: g1) = totL m (x' :: g1')
  rw [e1, e2, hlast, hxx]
end Go.Proofs.Ytoccifhckpjfaaa
