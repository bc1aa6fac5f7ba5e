/- The law of parts. -/
import Derived.Test.YtnafhnnhhdmnfaaLaw36d
namespace Go.Proofs.Ytnafhnnhhdmnfaa
set_option linter.all false
open Go.Idl
set_option maxHeartbeats 4000000
set_option maxRecDepth 100000
attribute [local go_sem] Try.underlying3 Try.underlying5 Try.underlying9 Try.underlying4 agKey
def kd (k : List ByteArray) : KeyD := match k with
  | [a, b] => kAt a b
  | _ => kAt ⟨#[]⟩ ⟨#[]⟩
theorem keys_of : ∀ (l : List EvD) (p : Option EvD) (k : List ByteArray), k ∈ keysF p l → ∃ x ∈ l, k = [x.station, x.txn]
  | [], _, _, h => by simp [keysF] at h
  | e :: l, p, k, h => by
    simp only [keysF, List.mem_append] at h
    rcases h with h | h
    · cases hn : newK p e <;> simp [hn] at h
      exact ⟨e, by simp, h⟩
    · obtain ⟨x, hx, e⟩ := keys_of l (some e) k h
      exact ⟨x, by simp [hx], e⟩
theorem keys_all : ∀ (l : List EvD) (p : Option EvD) (x : EvD), x ∈ l → [x.station, x.txn] ∈ keysF p l ∨ ∃ q, p = some q ∧ one q x = true
  | [], _, _, h => by simp at h
  | e :: l, p, x, h => by
    have he : [e.station, e.txn] ∈ keysF p (e :: l) ∨ ∃ q, p = some q ∧ one q e = true := by
      cases hn : newK p e with
      | true => left; simp [keysF, hn]
      | false =>
        cases p with
        | none => simp [newK] at hn
        | some q => right; exact ⟨q, rfl, by simpa [newK] using hn⟩
    rcases List.mem_cons.1 h with rfl | h
    · exact he
    · rcases keys_all l (some e) x h with h1 | ⟨q, h1, h2⟩
      · left; simp [keysF, h1]
      · cases h1
        have e0 := h2
        simp only [one, Bool.and_eq_true, decide_eq_true_eq] at e0
        rw [← e0.1, ← e0.2]
        rcases he with h3 | ⟨q, h3, h4⟩
        · exact .inl h3
        · refine .inr ⟨q, h3, ?_⟩
          rw [one_iff] at *
          rw [← cmpT_congr' h2]; exact h4
theorem keys_asc : ∀ (l : List EvD) (p : Option EvD), l.Pairwise (fun a b => cmpT (keyE a) (keyE b) ≤ 0) → (∀ q, p = some q → ∀ x ∈ l, cmpT (keyE q) (keyE x) ≤ 0) →
    (keysF p l).Pairwise (fun k k' => cmpT (kd k) (kd k') < 0) ∧ ∀ q, p = some q → ∀ k ∈ keysF p l, cmpT (keyE q) (kd k) < 0
  | [], _, _, _ => by simp [keysF]
  | e :: l, p, hp, hq => by
    rw [List.pairwise_cons] at hp
    obtain ⟨i1, i2⟩ := keys_asc l (some e) hp.2 fun q hq x hx => by cases hq; exact hp.1 x hx
    have i3 := i2 e rfl
    have hkd : kd [e.station, e.txn] = kAt e.station e.txn := rfl
    refine ⟨?_, fun q h k hk => ?_⟩
    · simp only [keysF]
      cases newK p e with
      | false => simpa using i1
      | true => simp only [cond_true, List.singleton_append, List.pairwise_cons]; exact ⟨fun k hk => i3 k hk, i1⟩
    · have h0 := hq q h e (by simp)
      simp only [keysF, List.mem_append] at hk
      rcases hk with hk | hk
      · cases hn : newK p e with
        | false => simp [hn] at hk
        | true =>
          simp only [hn, cond_true, List.mem_singleton] at hk
          subst hk
          rw [hkd, kAt_cmp]
          subst h
          simp only [newK, one_cmp, Bool.not_eq_true', beq_eq_false_iff_ne] at hn
          omega
      · exact cmpT_le_lt h0 (i3 k hk)
def allK (l : List EvD) (ks : List (List ByteArray)) : List EvD := ks.flatMap fun k => segB l (kd k)
theorem allK_eq {l : List EvD} (hC : Coll l) : allK l (keysF none l) = l := by
  have hord : ∀ k, (segB l k).Pairwise (fun x y => bef x y = true) := fun k => by rw [seg_filter hC]; exact hC.bef.sublist List.filter_sublist
  refine sorted_ext ?_ hC.bef fun x => ?_
  · rw [allK, List.pairwise_flatMap]
    refine ⟨fun k _ => hord _, (keys_asc l none hC.le2 (fun q h => by cases h)).1.imp fun {k k'} hk x hx y hy => ?_⟩
    have h1 := ((seg_mem hC _).1 hx).2
    have h2 := ((seg_mem hC _).1 hy).2
    rw [bef_iff]; left
    have h3 := cmpT_congr h1 (keyE y)
    have h4 := cmpT_congr' h2 (kd k)
    omega
  · simp only [allK, List.mem_flatMap]
    constructor
    · rintro ⟨k, _, hx⟩; exact ((seg_mem hC _).1 hx).1
    · intro hx
      rcases keys_all l none x hx with h | ⟨q, h, _⟩
      · exact ⟨_, h, (seg_mem hC _).2 ⟨hx, by show cmpT (keyE x) (kAt x.station x.txn) = 0; rw [kAt_cmp]; exact cmpT_eq.2 ⟨rfl, rfl⟩⟩⟩
      · cases h
theorem allK_app (l : List EvD) (a : List (List ByteArray)) (k : List ByteArray) : allK l (a ++ [k]) = allK l a ++ segB l (kd k) := by simp [allK]
theorem allK_len {l : List EvD} (hC : Coll l) {a xs : List (List ByteArray)} (h : keysF none l = a ++ xs) : (allK l a).length + (allK l xs).length = l.length := by
  have := allK_eq hC
  rw [h] at this
  rw [← List.length_append]
  conv => rhs; rw [← this]
  simp [allK]
theorem end_last {l : List EvD} (hC : Coll l) (x y : ByteArray) {a : List EvD} {z : EvD} (h : l.filter (ofP x y) = a ++ [z]) : endE (l.filter (ofP x y)) = (z.kind == 3) := by
  have hA := seg_asc hC x y
  have hg : (l.filter (ofP x y)).Pairwise good2 := hC.ord.sublist List.filter_sublist
  have hof : ∀ e ∈ l.filter (ofP x y), ofP x y e = true := fun e he => (List.mem_filter.1 he).2
  rw [h] at hg hof hA ⊢
  rw [List.pairwise_append] at hg
  have hp := hA.lt
  rw [List.pairwise_append] at hp
  rw [endE_app]
  have : endE a = false := by
    simp only [endE, List.any_eq_false]
    intro e he
    have h1 := hg.2.2 e he z (by simp)
    have h2 := hp.2.2 e he z (by simp)
    have o1 := hof e (by simp [he])
    have o2 := hof z (by simp)
    simp only [ofP, Bool.and_eq_true, decide_eq_true_eq] at o1 o2
    have := (contra_lt h2).1 (h1.2 (by simp [one, o1, o2]))
    simpa using this.1
  rw [this]; rfl
theorem Asc.ge {m : List EvD} (h : Asc m) : ∀ (i : Nat) (x : EvD), m[i]? = some x → (i : Int) ≤ x.seq := by
  intro i
  induction i with
  | zero => intro x hx; have := (h.bnd x (List.mem_of_getElem? hx)).1; omega
  | succ i ih =>
    intro x hx
    obtain ⟨h1, h2⟩ := List.getElem?_eq_some_iff.1 hx
    have h3 : m[i]? = some (m[i]'(by omega)) := by simp
    have := ih _ h3
    have h4 := List.pairwise_iff_getElem.1 h.lt i (i + 1) (by omega) h1 (by omega)
    rw [h2] at h4; omega
theorem no_gap {m : List EvD} (hA : Asc m) (h : cutN (pR m) (topN m) = []) : ∀ (i : Nat) (x : EvD), m[i]? = some x → x.seq = (i : Int) := by
  have hall : ∀ n, n < topN m → ∃ e ∈ m, e.seq = (n : Int) := fun n hn => by
    have h0 : nums (pR m) (topN m) = [] := by
      unfold cutN at h
      cases hq : nums (pR m) (topN m) with
      | nil => rfl
      | cons a b => rw [hq] at h; simp at h
    simp only [nums, List.map_eq_nil_iff, List.filter_eq_nil_iff, List.mem_range] at h0
    have := h0 n hn
    simp only [pR, Bool.not_eq_true, List.all_eq_false] at this
    obtain ⟨e, he, h1⟩ := this
    exact ⟨e, he, by simpa using h1⟩
  intro i
  induction i using Nat.strongRecOn with
  | _ i ih =>
    intro x hx
    have hge := hA.ge i x hx
    apply Int.le_antisymm _ hge
    apply Int.not_lt.1
    intro hlt
    have hxm := List.mem_of_getElem? hx
    have htop := hA.top (a := m) (xs := []) (by simp) x hxm
    obtain ⟨e, he, h1⟩ := hall i (by omega)
    obtain ⟨j, hj⟩ := List.mem_iff_getElem?.1 he
    by_cases hji : j < i
    · have := ih j hji e hj; omega
    · obtain ⟨p1, p2⟩ := List.getElem?_eq_some_iff.1 hx
      obtain ⟨p3, p4⟩ := List.getElem?_eq_some_iff.1 hj
      by_cases hij : i = j
      · subst hij; rw [p2] at p4; subst p4; omega
      · have h4 := List.pairwise_iff_getElem.1 hA.lt i j p1 p3 (by omega)
        rw [p2, p4] at h4; omega
theorem seg_times {l : List EvD} (hC : Coll l) (x y : ByteArray) {i : Nat} {a b : EvD} (h1 : (l.filter (ofP x y))[i]? = some a) (h2 : (l.filter (ofP x y))[i + 1]? = some b) : a.time ≤ b.time := by
  have hg : (l.filter (ofP x y)).Pairwise good2 := hC.ord.sublist List.filter_sublist
  have hA := seg_asc hC x y
  have o1 := (List.mem_filter.1 (List.mem_of_getElem? h1)).2
  have o2 := (List.mem_filter.1 (List.mem_of_getElem? h2)).2
  simp only [ofP, Bool.and_eq_true, decide_eq_true_eq] at o1 o2
  obtain ⟨p1, p2⟩ := List.getElem?_eq_some_iff.1 h1
  obtain ⟨p3, p4⟩ := List.getElem?_eq_some_iff.1 h2
  have q1 := List.pairwise_iff_getElem.1 hg i (i + 1) p1 p3 (by omega)
  have q2 := List.pairwise_iff_getElem.1 hA.lt i (i + 1) p1 p3 (by omega)
  rw [p2, p4] at q1 q2
  exact ((contra_lt q2).1 (q1.2 (by simp [one, o1, o2]))).2
theorem con7 {Φ : Specs} (hg : Idl.Good Try.prog Φ) (h9 : Φ 9 = some SShort) (h10 : Φ 10 = some Aw) (h12 : Φ 12 = some SCol)
    (h22 : Φ 22 = some SKeys) (h15 : Φ 15 = some SSameL) (h18 : Φ 18 = some SOf) (h16 : Φ 16 = some SMissI) :
    Contract Try.prog 7 (FT fun (_ : List EvD × Unit) => some true) := by
  refine conT hg k7 ic7 (by decide) fun C t r h => ?_
  obtain ⟨l, u⟩ := t
  cases h
  by_cases hl : colS l = 0
  · have hC := colS_ok.1 hl
    have hlen := hC.len
    have hl1 : l.length ≤ 100000 := by omega
    have hne : (colS l != 0) = false := by simp [hl]
    have hkl := keysF_len l none
    simp +contextual only [go_sem, ↓reduceIte, Nat.reduceEqDiff, Nat.reduceAdd, Nat.reduceLeDiff, Nat.reduceLT, reduceCtorEq, c7, k7, h9, h10, h12, hl, hl1, hne, h22]
    refine fun hsh => ?_
    refine TriI.loopL hg k7 (keysF none l) (fun i (a : List (List ByteArray)) => ⟨slotsL [(0, Cod.enc l), (3, Cod.enc (keysF none l)), (4, .own 0 0 (allK l a).length), (5, .sc (.int .i64 i))], objsL [.live 10 ((allK l a).map Cod.enc) true], 1⟩)
      (fun xs a => keysF none l = a ++ xs) [] (.ren [none] rfl rfl 0 ?_) rfl ?_ ?_
    · have hz : allK l [] = [] := rfl
      simp +contextual only [go_sem, ↓reduceIte, Nat.reduceEqDiff, Nat.reduceAdd, Nat.reduceLeDiff, Nat.reduceLT, reduceCtorEq, hz, List.length_nil, List.map_nil]
      rfl
    · intro a hinv
      rw [List.append_nil] at hinv
      have hall : allK l a = l := by rw [← hinv, allK_eq hC]
      have hrd := hC.rds
      have s1 : ∀ z : List EvD, eqZ sameE z z = true := eqZ_self fun a => sameE_iff.2 rfl
      have htk : List.take l.length (List.map (Cod.enc : EvD → V) l) = List.map Cod.enc l := List.take_of_length_le (by simp)
      simp +contextual only [go_sem, ↓reduceIte, Nat.reduceEqDiff, Nat.reduceAdd, Nat.reduceLeDiff, Nat.reduceLT, reduceCtorEq, k7, Int.lt_irrefl, decide_false, List.length_map, hall, isF_evs, Nat.zero_add, Nat.le_refl, List.drop_zero, true_and, and_true, htk, hrd, s1, h15, h10]
    · intro i a k xs hd hlt hx hinv
      have hw := wrap_nat hlt (by omega)
      obtain ⟨x, y, rfl⟩ := twos_at (twos_keys l none) hx
      have hnext : keysF none l = a ++ [[x, y]] ++ xs := by rw [hinv]; simp
      have hlen2 := allK_len hC hnext
      have e3 := seg_of hC x y
      have hap := allK_app l a [x, y]
      rw [show kd [x, y] = kAt x y from rfl, e3] at hap
      rw [hap, List.length_append] at hlen2
      have hm := miss_eq hC x y
      rw [e3] at hm
      obtain ⟨e1, -⟩ := Prod.mk.inj hm
      obtain ⟨z, hz, hzk⟩ := keys_of l none [x, y] (by rw [hinv]; simp)
      simp only [List.cons.injEq, and_true] at hzk
      have hA := seg_asc hC x y
      have hzm : z ∈ l.filter (ofP x y) := List.mem_filter.2 ⟨hz, by simp [ofP, hzk.1, hzk.2]⟩
      have hend : ∀ a z, l.filter (ofP x y) = a ++ [z] → endE (l.filter (ofP x y)) = (z.kind == 3) := fun a z h => end_last hC x y h
      have htim : ∀ i a b, (l.filter (ofP x y))[i]? = some a → (l.filter (ofP x y))[i + 1]? = some b → a.time ≤ b.time := fun i a b h1 h2 => seg_times hC x y h1 h2
      generalize l.filter (ofP x y) = m at *
      have b1 : ((allK l a).length + m.length) * 120 ≤ 68719476736 := by omega
      have b2 : (allK l a).length + m.length ≤ 4294967296 := by omega
      obtain ⟨m', w, hmw⟩ : ∃ m' w, m = m' ++ [w] := by
        rcases List.eq_nil_or_concat m with rfl | ⟨m', w, h⟩
        · simp at hzm
        · exact ⟨m', w, by rw [h, List.concat_eq_append]⟩
      have hl0 : ((m.length : Int) == 0) = false := by rw [hmw]; simp; omega
      have hwm : IntKind.i64.wrap ((m.length : Int) - 1) = ((m.length - 1 : Nat) : Int) := by
        have : 0 < m.length := by rw [hmw]; simp
        rw [IntKind.wrap_i64]; omega
      have hlast : m[m.length - 1]? = some w := by rw [hmw]; simp
      have hen := hend m' w hmw
      have h22 : (((2 : Nat) : Int) != 2) = false := rfl
      have hbb : ∀ b : Bool, (b != b) = false := fun b => by cases b <;> rfl
      simp +contextual only [go_sem, ↓reduceIte, Nat.reduceEqDiff, Nat.reduceAdd, Nat.reduceLeDiff, Nat.reduceLT, reduceCtorEq, k7, lt_dec hlt, hx, hw, hl, e3, e1, h22, hl0, hwm, hlast, hen, hbb, b1, b2, h18, h16, List.length_map, List.length_append, List.getElem?_map, Option.map_some, Int.natCast_nonneg, Int.toNat_natCast, Nat.zero_add, List.drop_zero, true_and, and_true, okE_evs, List.getElem?_cons_zero, List.getElem?_cons_succ, Int.le_refl, Int.toNat_zero, show Int.toNat 1 = 1 from rfl, show (0 : Int) ≤ 1 by decide, List.map_cons, List.map_nil, List.length_cons, List.length_nil]
      have hmap : (allK l (a ++ [[x, y]])).map Cod.enc = List.map (Cod.enc : EvD → V) (allK l a) ++ List.map Cod.enc m := by rw [hap, List.map_append]
      have hln : (allK l (a ++ [[x, y]])).length = (allK l a).length + m.length := by rw [hap, List.length_append]
      have hlow : ∀ n, (List.map (Cod.enc : EvD → V) (allK l a) ++ List.map Cod.enc m).all (V.low n) = true := fun n => by rw [← hmap]; exact low_evs _ _
      refine ⟨rfl, rfl, fun hc => ⟨a ++ [[x, y]], hnext, .ren [some 16] rfl rfl 0 ?_⟩, fun hc => ?_⟩
      · simp +contextual only [go_sem, ↓reduceIte, Nat.reduceEqDiff, Nat.reduceAdd, Nat.reduceLeDiff, Nat.reduceLT, reduceCtorEq, hmap, hln, hlow, hw]
      · have hcut : cutN (pR m) (topN m) = [] := by
          apply List.eq_nil_of_length_eq_zero
          simp only [decide_eq_false_iff_not] at hc; omega
        have hseq := no_gap hA hcut
        refine TriI.loopL hg k7 m (fun j (_ : Unit) => ⟨slotsL [(0, Cod.enc l), (3, Cod.enc (keysF none l)), (4, .own 0 0 (allK l (a ++ [[x, y]])).length), (5, .sc (.int .i64 i)), (6, Cod.enc m), (9, .sc (.int .i64 j))], objsL [.live 10 ((allK l (a ++ [[x, y]])).map Cod.enc) true], 1⟩)
          (fun _ _ => True) () (.ren [some 16] rfl rfl 0 ?_) trivial ?_ ?_
        · simp +contextual only [go_sem, ↓reduceIte, Nat.reduceEqDiff, Nat.reduceAdd, Nat.reduceLeDiff, Nat.reduceLT, reduceCtorEq, hmap, hln, hlow]
          rfl
        · intro _ _
          simp +contextual only [go_sem, ↓reduceIte, Nat.reduceEqDiff, Nat.reduceAdd, Nat.reduceLeDiff, Nat.reduceLT, reduceCtorEq, k7, Int.lt_irrefl, decide_false, List.length_map, hw]
          refine ⟨a ++ [[x, y]], hnext, .back rfl ?_⟩
          simp +contextual only [go_sem, ↓reduceIte, Nat.reduceEqDiff, Nat.reduceAdd, Nat.reduceLeDiff, Nat.reduceLT, reduceCtorEq, low_evs]
        · intro j _ v vs hvd hvlt hv _
          have hw2 := wrap_nat hvlt (by omega)
          have hs := hseq j v hv
          have hsn : ((j : Int) != (j : Int)) = false := by simp
          cases j with
          | zero =>
            have hg0 : decide (((0 : Nat) : Int) > 0) = false := rfl
            simp +contextual only [go_sem, ↓reduceIte, Nat.reduceEqDiff, Nat.reduceAdd, Nat.reduceLeDiff, Nat.reduceLT, reduceCtorEq, k7, lt_dec hvlt, hv, hs, hsn, hw2, hg0, List.length_map, List.getElem?_map, Option.map_some, Int.natCast_nonneg, Int.toNat_natCast]
            refine ⟨rfl, (), trivial, .back rfl ?_⟩
            simp +contextual only [go_sem, ↓reduceIte, Nat.reduceEqDiff, Nat.reduceAdd, Nat.reduceLeDiff, Nat.reduceLT, reduceCtorEq, low_evs, hw2]
          | succ j =>
            have hg1 : decide (((j + 1 : Nat) : Int) > 0) = true := by simp only [decide_eq_true_eq]; omega
            have hw1 : IntKind.i64.wrap (((j + 1 : Nat) : Int) - 1) = ((j : Nat) : Int) := by rw [IntKind.wrap_i64]; omega
            obtain ⟨v0, hv0⟩ : ∃ v0, m[j]? = some v0 := ⟨m[j]'(by omega), by simp⟩
            have ht : decide (v.time < v0.time) = false := by have := htim j v0 v hv0 hv; simp; omega
            simp +contextual only [go_sem, ↓reduceIte, Nat.reduceEqDiff, Nat.reduceAdd, Nat.reduceLeDiff, Nat.reduceLT, reduceCtorEq, k7, lt_dec hvlt, hv, hs, hsn, hg1, hw1, hv0, ht, hw2, List.length_map, List.getElem?_map, Option.map_some, Int.natCast_nonneg, Int.toNat_natCast]
            refine ⟨rfl, (), trivial, .back rfl ?_⟩
            simp +contextual only [go_sem, ↓reduceIte, Nat.reduceEqDiff, Nat.reduceAdd, Nat.reduceLeDiff, Nat.reduceLT, reduceCtorEq, low_evs, hw2]
  · have hne : (colS l != 0) = true := by simp [hl]
    simp +contextual only [go_sem, ↓reduceIte, Nat.reduceEqDiff, Nat.reduceAdd, Nat.reduceLeDiff, Nat.reduceLT, reduceCtorEq, c7, k7, h9, h10, h12, hne, Bool.or_true, Bool.true_eq_false, false_implies, implies_true]
theorem C7 : Contract Try.prog 7 (FT fun (_ : List EvD × Unit) => some true) := by
  have g := good0
  have g := g.add (facts_enters ic9) C9
  have g := g.add (facts_enters ic10) conAw
  have g := g.add (facts_enters ic12) C12
  have g := g.add (facts_enters ic22) C22
  have g := g.add (facts_enters ic15) C15
  have g := g.add (facts_enters ic18) C18
  have g := g.add (facts_enters ic16) C16
  exact con7 g rfl rfl rfl rfl rfl rfl rfl
end Go.Proofs.Ytnafhnnhhdmnfaa
