/- The order of tokens; what a change keeps. -/
import Derived.Test.YtlkejejgaenjcaaList22o
namespace Go.Proofs.Ytlkejejgaenjcaa
set_option linter.all false
open Go.Idl
set_option maxHeartbeats 4000000
set_option maxRecDepth 100000
attribute [local go_sem] eqTok agTok agLst Try.underlying3 Try.underlying5 Try.underlying9 Try.underlying4
theorem full_wf {l : TListD} {v : Int} {ts : List TokD} {r : TListD} (h : fullS l v ts = (r, 0)) : WFL l ∧ 1 ≤ v ∧ v ≤ 2147483647 ∧ l.version < v ∧ ts.length ≤ 128 ∧ (∀ t, t ∈ ts → tokS t = 0) ∧ DisK ts ∧ r = ⟨v, srtT ts⟩ := by
  unfold fullS at h
  cases e1 : validL l == 0 with
  | false =>
    rw [e1, Bool.not_false, cond_true] at h
    have := congrArg Prod.snd h
    simp at e1
    exact absurd this e1
  | true =>
    rw [e1, Bool.not_true, cond_false] at h
    cases e2 : decide (v < 1) || decide (v > 2147483647) with
    | true => rw [e2, cond_true] at h; cases congrArg Prod.snd h
    | false =>
      rw [e2, cond_false] at h
      cases e3 : decide (v ≤ l.version) with
      | true => rw [e3, cond_true] at h; cases congrArg Prod.snd h
      | false =>
        rw [e3, cond_false] at h
        cases e4 : decide ((ts.length : Int) > 128) with
        | true => rw [e4, cond_true] at h; cases congrArg Prod.snd h
        | false =>
          rw [e4, cond_false] at h
          cases e5 : fTok [] ts == 0 with
          | false =>
            rw [e5, Bool.not_false, cond_true] at h
            have := congrArg Prod.snd h
            simp at e5
            exact absurd this e5
          | true =>
            rw [e5, Bool.not_true, cond_false] at h
            obtain ⟨h2, h3⟩ := (fTok_iff ts [] .nil).1 (by simpa using e5)
            simp at e1 e2 e3 e4
            exact ⟨(valid_iff l).1 e1, by omega, by omega, e3, by omega, h2, by simpa using h3, (congrArg Prod.fst h).symm⟩
theorem full_ok {l : TListD} {v : Int} {ts : List TokD} (h : WFL l) (h1 : 1 ≤ v) (h2 : v ≤ 2147483647) (h4 : l.version < v) (h5 : ts.length ≤ 128) (h6 : ∀ t, t ∈ ts → tokS t = 0) (h7 : DisK ts) : fullS l v ts = (⟨v, srtT ts⟩, 0) := by
  unfold fullS
  have e1 : (validL l == 0) = true := by simpa using (valid_iff l).2 h
  have e2 : (decide (v < 1) || decide (v > 2147483647)) = false := by simp; omega
  have e3 : decide (v ≤ l.version) = false := by simp; omega
  have e4 : decide ((ts.length : Int) > 128) = false := by simp; omega
  have e5 : (fTok [] ts == 0) = true := by simpa using (fTok_iff ts [] .nil).2 ⟨h6, by simpa using h7⟩
  rw [e1, e2, e3, e4, e5]
  rfl
theorem dis_perm {a b : List TokD} (h : DisK a) (hp : a.Perm b) : DisK b := h.perm hp fun h => Ne.symm h
theorem full_turn {l : TListD} {v : Int} {a b : List TokD} {r : TListD} (hp : a.Perm b) (h : fullS l v a = (r, 0)) : fullS l v b = (r, 0) := by
  obtain ⟨h1, h2, h3, h4, h5, h6, h7, rfl⟩ := full_wf h
  rw [full_ok h1 h2 h3 h4 (by rw [← hp.length_eq]; exact h5) (fun t ht => h6 t (hp.mem_iff.2 ht)) (dis_perm h7 hp), srt_congr (dis_perm h7 hp) hp]
theorem hasK_perm {a b : List TokD} (hp : a.Perm b) (k : ByteArray) : hasK a k = hasK b k := by
  rw [Bool.eq_iff_iff, hasK_iff, hasK_iff]
  constructor
  · rintro ⟨t, h1, h2⟩; exact ⟨t, hp.mem_iff.1 h1, h2⟩
  · rintro ⟨t, h1, h2⟩; exact ⟨t, hp.mem_iff.2 h1, h2⟩
theorem new_perm (l : List TokD) {a b : List TokD} (hp : a.Perm b) : (newT l a).Perm (newT l b) := by
  have : l.filter (keptT a) = l.filter (keptT b) := by
    congr 1
    funext t
    simp only [keptT, hasK_perm hp]
  unfold newT
  rw [this]
  exact List.Perm.append_left _ (hp.filter _)
theorem change_turn {l : TListD} {w v : Int} {a b : List TokD} {r : TListD} (hp : a.Perm b) (h : changeS l w v a = (r, 0)) : changeS l w v b = (r, 0) := by
  obtain ⟨h1, h2, h3, h4, h5, h6, h7, h8, h9, rfl⟩ := change_wf h
  have hn := new_perm l.tokens hp
  have h8' := dis_perm h8 hp
  rw [change_ok h1 h2 h3 h4 h5 (by rw [← hp.length_eq]; exact h6) (fun t ht => h7 t (hp.mem_iff.2 ht)) h8' (by rw [← hn.length_eq]; exact h9), srt_congr (new_dis (dis_of h1) h8') hn]
theorem change_err {l : TListD} {b v : Int} {ts : List TokD} {r : TListD} {e : Int} (h : changeS l b v ts = (r, e)) (he : e ≠ 0) : r = l := by
  unfold changeS at h
  revert h
  cases (!(validL l == 0)) <;> simp only [cond_true, cond_false]
  · cases (decide (v < 1) || decide (v > 2147483647)) <;> simp only [cond_true, cond_false]
    · cases ((b != l.version) || decide (v ≤ b)) <;> simp only [cond_true, cond_false]
      · cases decide ((ts.length : Int) > 128) <;> simp only [cond_true, cond_false]
        · cases (!(cTok l.tokens [] ts == 0)) <;> simp only [cond_true, cond_false]
          · cases decide (((newT l.tokens ts).length : Int) > 128) <;> simp only [cond_true, cond_false]
            · intro h; exact absurd (congrArg Prod.snd h).symm he
            · intro h; exact (congrArg Prod.fst h).symm
          · intro h; exact (congrArg Prod.fst h).symm
        · intro h; exact (congrArg Prod.fst h).symm
      · intro h; exact (congrArg Prod.fst h).symm
    · intro h; exact (congrArg Prod.fst h).symm
  · intro h; exact (congrArg Prod.fst h).symm
/-- Equal, or both with an error. -/
theorem turn_both {f : List TokD → TListD × Int} {a b : List TokD} (h1 : ∀ r, f a = (r, 0) → f b = (r, 0)) (h2 : ∀ r, f b = (r, 0) → f a = (r, 0)) : (∃ r, f a = (r, 0) ∧ f b = (r, 0)) ∨ (∃ r e s d, f a = (r, e) ∧ f b = (s, d) ∧ (e == 0) = false ∧ (d == 0) = false) := by
  obtain ⟨⟨r, e⟩, ha⟩ : ∃ x, f a = x := ⟨_, rfl⟩
  obtain ⟨⟨s, d⟩, hb⟩ : ∃ x, f b = x := ⟨_, rfl⟩
  by_cases he : e = 0
  · subst he; exact .inl ⟨r, ha, h1 r ha⟩
  · by_cases hd : d = 0
    · subst hd; have := h2 s hb; rw [ha] at this; exact absurd (congrArg Prod.snd this) he
    · exact .inr ⟨r, e, s, d, ha, hb, by simpa using he, by simpa using hd⟩
theorem con8 {Φ : Specs} (hg : Idl.Good Try.prog Φ) (h11 : Φ 11 = some SEx) (h10 : Φ 10 = some SSml) (h14 : Φ 14 = some SFul) (h17 : Φ 17 = some SChg) (h16 : Φ 16 = some SSmL) (h12 : Φ 12 = some SVal) :
    Contract Try.prog 8 (FT fun (t : TListD × List TokD × Int × Unit) => some true) := by
  refine conT hg k8 ic8 (by decide) fun C t r h => ?_
  obtain ⟨l, ts, k, u⟩ := t
  cases h
  cases h1 : decide ((l.tokens.length : Int) ≤ 140) with
  | false =>
    simp +contextual only [go_sem, ↓reduceIte, Nat.reduceEqDiff, Nat.reduceAdd, Nat.reduceLeDiff, Nat.reduceLT, reduceCtorEq, c8, k8, h11, h10, h1]
  | true =>
    cases h2 : decide ((ts.length : Int) ≤ 140) with
    | false =>
      simp +contextual only [go_sem, ↓reduceIte, Nat.reduceEqDiff, Nat.reduceAdd, Nat.reduceLeDiff, Nat.reduceLT, reduceCtorEq, c8, k8, h11, h10, h1, h2]
    | true =>
      have b1 : l.tokens.length ≤ 140 := by simp at h1; omega
      have b2 : ts.length ≤ 140 := by simp at h2; omega
      cases h3 : decide (k < 0) with
      | true =>
        simp +contextual only [go_sem, ↓reduceIte, Nat.reduceEqDiff, Nat.reduceAdd, Nat.reduceLeDiff, Nat.reduceLT, reduceCtorEq, c8, k8, h11, h10, h1, h2, h3]
      | false =>
        cases h4 : decide (k > (ts.length : Int)) with
        | true =>
          simp +contextual only [go_sem, ↓reduceIte, Nat.reduceEqDiff, Nat.reduceAdd, Nat.reduceLeDiff, Nat.reduceLT, reduceCtorEq, c8, k8, h11, h10, h1, h2, h3, h4, List.length_map]
        | false =>
          cases h5 : decide (l.version < 0) with
          | true =>
            simp +contextual only [go_sem, ↓reduceIte, Nat.reduceEqDiff, Nat.reduceAdd, Nat.reduceLeDiff, Nat.reduceLT, reduceCtorEq, c8, k8, h11, h10, h1, h2, h3, h4, h5, List.length_map]
          | false =>
            cases h6 : decide (l.version > 2147483648) with
            | true =>
              simp +contextual only [go_sem, ↓reduceIte, Nat.reduceEqDiff, Nat.reduceAdd, Nat.reduceLeDiff, Nat.reduceLT, reduceCtorEq, c8, k8, h11, h10, h1, h2, h3, h4, h5, h6, List.length_map]
            | false =>
              simp at h3 h4 h5 h6
              obtain ⟨k, rfl⟩ := Int.eq_ofNat_of_zero_le h3
              have hkl : k ≤ ts.length := by omega
              have h3' : decide ((k : Int) < 0) = false := by simp
              have h4' : decide ((k : Int) > (ts.length : Int)) = false := by simp; omega
              have h5' : decide (l.version < 0) = false := by simp; omega
              have h6' : decide (l.version > 2147483648) = false := by simp; omega
              have w1 : IntKind.i64.wrap (l.version + 1) = l.version + 1 := by rw [IntKind.wrap_i64]; omega
              have hp : ts.Perm (ts.drop k ++ ts.take k) := by
                have := List.perm_append_comm (l₁ := ts.take k) (l₂ := ts.drop k)
                rwa [List.take_append_drop] at this
              have hol : (ts.drop k ++ ts.take k).length = ts.length := hp.length_eq.symm
              have a1 : l.tokens.length ≤ 1000000 := by omega
              have a2 : ts.length ≤ 1000000 := by omega
              have a3 : (ts.drop k ++ ts.take k).length ≤ 1000000 := by omega
              have a4 : (fullS l (l.version + 1) ts).1.tokens.length ≤ 1000000 := Nat.le_trans (full_len b1 b2) (by omega)
              have a5 : (changeS l l.version (l.version + 1) ts).1.tokens.length ≤ 1000000 := Nat.le_trans (change_len b1 b2) (by omega)
              have c1 : (ts.drop k).length * 72 ≤ 68719476736 := by rw [List.length_drop]; omega
              have c2 : (ts.drop k).length ≤ 4294967296 := by rw [List.length_drop]; omega
              have hTT : (ts.map Cod.enc).take ts.length = (ts.map Cod.enc : List V) := List.take_of_length_le (by simp)
              have hlo : (ts.drop k).length + (ts.take k).length = (ts.drop k ++ ts.take k).length := by rw [List.length_append]
              have hmo : (ts.drop k).map Cod.enc ++ (ts.take k).map Cod.enc = ((ts.drop k ++ ts.take k).map Cod.enc : List V) := by rw [List.map_append]
              have hmd : (ts.map Cod.enc).drop k = ((ts.drop k).map Cod.enc : List V) := by rw [List.map_drop]
              have hmt : (ts.map Cod.enc).take k = ((ts.take k).map Cod.enc : List V) := by rw [List.map_take]
              generalize ho : ts.drop k ++ ts.take k = o at hp hol a3 hmo hlo
              have c3 : o.length * 72 ≤ 68719476736 := by omega
              have c4 : o.length ≤ 4294967296 := by omega
              have hoT : (o.map Cod.enc).take o.length = (o.map Cod.enc : List V) := List.take_of_length_le (by simp)
              have hfull : (fullS l (l.version + 1) ts).1.tokens.length ≤ 1000000 := a4
              rcases turn_both (f := fullS l (l.version + 1)) (fun r => full_turn hp) (fun r => full_turn hp.symm) with ⟨r, hf1, hf2⟩ | ⟨r, e, s, d, hf1, hf2, he, hd⟩
              · obtain ⟨x1, x2, x3, x4, x5, x6, x7, x8⟩ := full_wf hf1
                have v1 : validL r = 0 := by
                  rw [valid_iff, x8]
                  have hpt := sort_perm x7
                  exact ⟨by dsimp only; omega, x3, by rw [hpt.length_eq]; exact x5, fun h0 => by dsimp only at h0; omega, fun t ht => x6 t (hpt.mem_iff.1 ht), sort_sorted x7⟩
                have rl : r.tokens.length = ts.length := by rw [x8]; exact (sort_perm x7).length_eq
                have rl2 : r.tokens.length ≤ 1000000 := by omega
                have rl3 : ((r.tokens.length : Int) != (ts.length : Int)) = false := by rw [rl]; simp
                rcases turn_both (f := changeS l l.version (l.version + 1)) (fun r => change_turn hp) (fun r => change_turn hp.symm) with ⟨q, hg1, hg2⟩ | ⟨q, e, s, d, hg1, hg2, he, hd⟩
                · obtain ⟨y1, y2, y3, y4, y5, y6, y7, y8, y9, y10⟩ := change_wf hg1
                  have v2 : validL q = 0 := by rw [valid_iff, y10]; exact after_wf y1 y2 y3 y7 y8 y9
                  have ql : q.tokens.length ≤ 1000000 := by rw [y10]; exact Nat.le_trans (srtT_len _) (by omega)
                  simp +contextual only [go_sem, ↓reduceIte, Nat.reduceEqDiff, Nat.reduceAdd, Nat.reduceLeDiff, Nat.reduceLT, reduceCtorEq, c8, k8, h11, h10, h14, h17, h12, h16, hf1, hf2, hg1, hg2, h1, h2, h3', h4', h5', h6', w1, a1, a2, a3, rl2, rl3, v1, v2, ql, hkl, hTT, hmd, hmt, hmo, hlo, c1, c2, c3, c4, okE_toks, isF_toks, hoT, sameLst_self, Nat.zero_le, Nat.le_refl, Option.map_none, List.drop_zero, List.length_map, List.length_nil, List.nil_append, Int.natCast_nonneg, Int.toNat_natCast, Nat.zero_add, bne_self_eq_false, beq_self_eq_true, true_and, and_true, and_self]
                  exact rfl
                · simp +contextual only [go_sem, ↓reduceIte, Nat.reduceEqDiff, Nat.reduceAdd, Nat.reduceLeDiff, Nat.reduceLT, reduceCtorEq, c8, k8, h11, h10, h14, h17, h12, h16, hf1, hf2, hg1, hg2, h1, h2, h3', h4', h5', h6', w1, a1, a2, a3, rl2, rl3, v1, he, hd, hkl, hTT, hmd, hmt, hmo, hlo, c1, c2, c3, c4, okE_toks, isF_toks, hoT, sameLst_self, Nat.zero_le, Nat.le_refl, Option.map_none, List.drop_zero, List.length_map, List.length_nil, List.nil_append, Int.natCast_nonneg, Int.toNat_natCast, Nat.zero_add, bne_self_eq_false, beq_self_eq_true, true_and, and_true, and_self]
                  exact rfl
              · rcases turn_both (f := changeS l l.version (l.version + 1)) (fun r => change_turn hp) (fun r => change_turn hp.symm) with ⟨q, hg1, hg2⟩ | ⟨q, e2, s2, d2, hg1, hg2, he2, hd2⟩
                · obtain ⟨y1, y2, y3, y4, y5, y6, y7, y8, y9, y10⟩ := change_wf hg1
                  have v2 : validL q = 0 := by rw [valid_iff, y10]; exact after_wf y1 y2 y3 y7 y8 y9
                  have ql : q.tokens.length ≤ 1000000 := by rw [y10]; exact Nat.le_trans (srtT_len _) (by omega)
                  simp +contextual only [go_sem, ↓reduceIte, Nat.reduceEqDiff, Nat.reduceAdd, Nat.reduceLeDiff, Nat.reduceLT, reduceCtorEq, c8, k8, h11, h10, h14, h17, h12, h16, hf1, hf2, hg1, hg2, h1, h2, h3', h4', h5', h6', w1, a1, a2, a3, v2, ql, he, hd, hkl, hTT, hmd, hmt, hmo, hlo, c1, c2, c3, c4, okE_toks, isF_toks, hoT, sameLst_self, Nat.zero_le, Nat.le_refl, Option.map_none, List.drop_zero, List.length_map, List.length_nil, List.nil_append, Int.natCast_nonneg, Int.toNat_natCast, Nat.zero_add, bne_self_eq_false, beq_self_eq_true, true_and, and_true, and_self]
                  exact rfl
                · simp +contextual only [go_sem, ↓reduceIte, Nat.reduceEqDiff, Nat.reduceAdd, Nat.reduceLeDiff, Nat.reduceLT, reduceCtorEq, c8, k8, h11, h10, h14, h17, h12, h16, hf1, hf2, hg1, hg2, h1, h2, h3', h4', h5', h6', w1, a1, a2, a3, he, hd, he2, hd2, hkl, hTT, hmd, hmt, hmo, hlo, c1, c2, c3, c4, okE_toks, isF_toks, hoT, sameLst_self, Nat.zero_le, Nat.le_refl, Option.map_none, List.drop_zero, List.length_map, List.length_nil, List.nil_append, Int.natCast_nonneg, Int.toNat_natCast, Nat.zero_add, bne_self_eq_false, beq_self_eq_true, true_and, and_true, and_self]
                  exact rfl
theorem con9 {Φ : Specs} (hg : Idl.Good Try.prog Φ) (h11 : Φ 11 = some SEx) (h10 : Φ 10 = some SSml) (h17 : Φ 17 = some SChg) (h16 : Φ 16 = some SSmL)
    (h22 : Φ 22 = some (FT fun (t : List TokD × TokD × Unit) => if t.1.length ≤ 1000000 ∧ okIds t.1 = true ∧ t.2.1.id.size ≤ 1000000 then some (hasK t.1 (kT t.2.1)) else none)) (h23 : Φ 23 = some (FT fun (t : List TokD × TokD × Unit) => if t.1.length ≤ 1000000 then some (hasT t.1 t.2.1) else none)) :
    Contract Try.prog 9 (FT fun (t : TListD × List TokD × Unit) => some true) := by
  refine conT hg k9 ic9 (by decide) fun C t r h => ?_
  obtain ⟨l, ts, u⟩ := t
  cases h
  cases h1 : decide ((l.tokens.length : Int) ≤ 140) with
  | false =>
    simp +contextual only [go_sem, ↓reduceIte, Nat.reduceEqDiff, Nat.reduceAdd, Nat.reduceLeDiff, Nat.reduceLT, reduceCtorEq, c9, k9, h11, h10, h17, h1]
  | true =>
    cases h2 : decide ((ts.length : Int) ≤ 140) with
    | false =>
      simp +contextual only [go_sem, ↓reduceIte, Nat.reduceEqDiff, Nat.reduceAdd, Nat.reduceLeDiff, Nat.reduceLT, reduceCtorEq, c9, k9, h11, h10, h17, h1, h2]
    | true =>
      have b1 : l.tokens.length ≤ 140 := by simp at h1; omega
      have b2 : ts.length ≤ 140 := by simp at h2; omega
      cases h5 : decide (l.version < 0) with
      | true =>
        simp +contextual only [go_sem, ↓reduceIte, Nat.reduceEqDiff, Nat.reduceAdd, Nat.reduceLeDiff, Nat.reduceLT, reduceCtorEq, c9, k9, h11, h10, h17, h1, h2, h5, List.length_map]
      | false =>
        cases h6 : decide (l.version > 2147483648) with
        | true =>
          simp +contextual only [go_sem, ↓reduceIte, Nat.reduceEqDiff, Nat.reduceAdd, Nat.reduceLeDiff, Nat.reduceLT, reduceCtorEq, c9, k9, h11, h10, h17, h1, h2, h5, h6, List.length_map]
        | false =>
          have a1 : l.tokens.length ≤ 1000000 := by omega
          have a2 : ts.length ≤ 1000000 := by omega
          have w1 : IntKind.i64.wrap (l.version + 1) = l.version + 1 := by simp at h5 h6; rw [IntKind.wrap_i64]; omega
          obtain ⟨⟨r, e⟩, hc⟩ : ∃ x, changeS l l.version (l.version + 1) ts = x := ⟨_, rfl⟩
          cases he : e != 0 with
          | true =>
            have hr := change_err hc (by simpa using he)
            subst hr
            simp +contextual only [go_sem, ↓reduceIte, Nat.reduceEqDiff, Nat.reduceAdd, Nat.reduceLeDiff, Nat.reduceLT, reduceCtorEq, c9, k9, h11, h10, h17, h16, hc, h1, h2, h5, h6, w1, he, a1, a2, and_self, sameLst_self, List.length_map]
          | false =>
            have he0 : e = 0 := by simpa using he
            subst he0
            obtain ⟨y1, y2, y3, y4, y5, y6, y7, y8, y9, y10⟩ := change_wf hc
            have hmr : ∀ x, x ∈ r.tokens ↔ (x ∈ l.tokens ∧ hasK ts (kT x) = false) ∨ (x ∈ ts ∧ x.status ≠ 0) := fun x => by
              rw [y10]
              exact (sort_perm (new_dis (dis_of y1) y8)).mem_iff.trans new_mem
            have hrl : r.tokens.length ≤ 1000000 := by rw [y10]; exact Nat.le_trans (srtT_len _) (by omega)
            have hot : okIds ts = true := by
              rw [okIds, List.all_eq_true]
              exact fun t ht => decide_eq_true (item_size (y7 t ht).1)
            simp +contextual only [go_sem, ↓reduceIte, Nat.reduceEqDiff, Nat.reduceAdd, Nat.reduceLeDiff, Nat.reduceLT, reduceCtorEq, c9, k9, h11, h10, h17, hc, h1, h2, h5, h6, w1, he, a1, a2, and_self, List.length_map]
            refine TriI.loopL hg k9 l.tokens (fun i (_ : Unit) => ⟨slotsL [(1, Cod.enc ts), (2, .ref 0 0 0), (5, .ref 1 0 0), (53, Cod.enc l.tokens), (54, .sc (.int .i64 l.tokens.length)), (55, .sc (.int .i64 i))], objsL [.live 2 [Cod.enc l] true, .live 2 [Cod.enc r] true], 2⟩)
              (fun _ _ => True) () (.back rfl ?_) trivial ?_ ?_
            · simp +contextual only [go_sem, ↓reduceIte, Nat.reduceEqDiff, Nat.reduceAdd, Nat.reduceLeDiff, Nat.reduceLT, reduceCtorEq, List.length_map, low_toks]
              rfl
            · intro _ _
              simp +contextual only [go_sem, ↓reduceIte, Nat.reduceEqDiff, Nat.reduceAdd, Nat.reduceLeDiff, Nat.reduceLT, reduceCtorEq, k9, h11, h10, h17, Int.lt_irrefl, decide_false, List.length_map]
              refine TriI.loopL hg k9 ts (fun i (_ : Unit) => ⟨slotsL [(1, Cod.enc ts), (2, .ref 0 0 0), (5, .ref 1 0 0), (71, Cod.enc ts), (72, .sc (.int .i64 ts.length)), (73, .sc (.int .i64 i))], objsL [.live 2 [Cod.enc l] true, .live 2 [Cod.enc r] true], 2⟩)
                (fun _ _ => True) () (.back rfl ?_) trivial ?_ ?_
              · simp +contextual only [go_sem, ↓reduceIte, Nat.reduceEqDiff, Nat.reduceAdd, Nat.reduceLeDiff, Nat.reduceLT, reduceCtorEq, List.length_map, low_toks]
                rfl
              · intro _ _
                simp +contextual only [go_sem, ↓reduceIte, Nat.reduceEqDiff, Nat.reduceAdd, Nat.reduceLeDiff, Nat.reduceLT, reduceCtorEq, k9, h11, h10, h17, Int.lt_irrefl, decide_false, List.length_map]
                refine TriI.loopL hg k9 r.tokens (fun i (_ : Unit) => ⟨slotsL [(1, Cod.enc ts), (2, .ref 0 0 0), (87, Cod.enc r.tokens), (88, .sc (.int .i64 r.tokens.length)), (89, .sc (.int .i64 i))], objsL [.live 2 [Cod.enc l] true, .live 2 [Cod.enc r] true], 2⟩)
                  (fun _ _ => True) () (.back rfl ?_) trivial ?_ ?_
                · simp +contextual only [go_sem, ↓reduceIte, Nat.reduceEqDiff, Nat.reduceAdd, Nat.reduceLeDiff, Nat.reduceLT, reduceCtorEq, List.length_map, low_toks]
                  rfl
                · intro _ _
                  simp +contextual only [go_sem, ↓reduceIte, Nat.reduceEqDiff, Nat.reduceAdd, Nat.reduceLeDiff, Nat.reduceLT, reduceCtorEq, k9, h11, h10, h17, Int.lt_irrefl, decide_false, List.length_map]
                · intro i _ x xs hdr hlt hx _
                  have hw := wrap_nat hlt (by omega)
                  have hmx := (hmr x).1 (List.mem_of_getElem? hx)
                  cases ht : hasT l.tokens x with
                  | true =>
                    simp +contextual only [go_sem, ↓reduceIte, Nat.reduceEqDiff, Nat.reduceAdd, Nat.reduceLeDiff, Nat.reduceLT, reduceCtorEq, k9, h11, h10, h17, h23, lt_dec hlt, hx, hw, a1, a2, ht, Bool.not_true, List.length_map, List.getElem?_map, Option.map_some, Int.natCast_nonneg, Int.toNat_natCast]
                    refine ⟨(), trivial, .back rfl ?_⟩
                    simp +contextual only [go_sem, ↓reduceIte, Nat.reduceEqDiff, Nat.reduceAdd, Nat.reduceLeDiff, Nat.reduceLT, reduceCtorEq, low_toks]
                  | false =>
                    have ht2 : hasT ts x = true := by
                      rcases hmx with ⟨k1, _⟩ | ⟨k1, _⟩
                      · rw [hasT_iff.2 k1] at ht; cases ht
                      · exact hasT_iff.2 k1
                    simp +contextual only [go_sem, ↓reduceIte, Nat.reduceEqDiff, Nat.reduceAdd, Nat.reduceLeDiff, Nat.reduceLT, reduceCtorEq, k9, h11, h10, h17, h23, lt_dec hlt, hx, hw, a1, a2, ht, ht2, Bool.not_true, Bool.not_false, List.length_map, List.getElem?_map, Option.map_some, Int.natCast_nonneg, Int.toNat_natCast]
                    refine ⟨(), trivial, .back rfl ?_⟩
                    simp +contextual only [go_sem, ↓reduceIte, Nat.reduceEqDiff, Nat.reduceAdd, Nat.reduceLeDiff, Nat.reduceLT, reduceCtorEq, low_toks]
              · intro i _ x xs hdr hlt hx _
                have hw := wrap_nat hlt (by omega)
                have hxm := List.mem_of_getElem? hx
                have hst : (hasT r.tokens x != (x.status != 0)) = false := by
                  have : hasT r.tokens x = (x.status != 0) := by
                    rw [Bool.eq_iff_iff, hasT_iff, hmr]
                    simp only [bne_iff_ne, ne_eq]
                    constructor
                    · rintro (⟨_, k2⟩ | ⟨_, k2⟩)
                      · exact absurd rfl (hasK_not.1 k2 x hxm)
                      · exact k2
                    · intro k2; exact .inr ⟨hxm, k2⟩
                  rw [this]; simp
                simp +contextual only [go_sem, ↓reduceIte, Nat.reduceEqDiff, Nat.reduceAdd, Nat.reduceLeDiff, Nat.reduceLT, reduceCtorEq, k9, h11, h10, h17, h23, lt_dec hlt, hx, hw, hrl, hst, List.length_map, List.getElem?_map, Option.map_some, Int.natCast_nonneg, Int.toNat_natCast]
                refine ⟨rfl, (), trivial, .back rfl ?_⟩
                simp +contextual only [go_sem, ↓reduceIte, Nat.reduceEqDiff, Nat.reduceAdd, Nat.reduceLeDiff, Nat.reduceLT, reduceCtorEq, low_toks]
            · intro i _ x xs hdr hlt hx _
              have hw := wrap_nat hlt (by omega)
              have hxm := List.mem_of_getElem? hx
              have hxs := name_size (y1.ok x hxm)
              cases ht : hasK ts (kT x) with
              | true =>
                simp +contextual only [go_sem, ↓reduceIte, Nat.reduceEqDiff, Nat.reduceAdd, Nat.reduceLeDiff, Nat.reduceLT, reduceCtorEq, k9, h11, h10, h17, h22, lt_dec hlt, hx, hw, a2, hot, hxs, and_self, ht, Bool.not_true, List.length_map, List.getElem?_map, Option.map_some, Int.natCast_nonneg, Int.toNat_natCast]
                refine ⟨(), trivial, .back rfl ?_⟩
                simp +contextual only [go_sem, ↓reduceIte, Nat.reduceEqDiff, Nat.reduceAdd, Nat.reduceLeDiff, Nat.reduceLT, reduceCtorEq, low_toks]
              | false =>
                have ht2 : hasT r.tokens x = true := hasT_iff.2 ((hmr x).2 (.inl ⟨hxm, ht⟩))
                simp +contextual only [go_sem, ↓reduceIte, Nat.reduceEqDiff, Nat.reduceAdd, Nat.reduceLeDiff, Nat.reduceLT, reduceCtorEq, k9, h11, h10, h17, h22, h23, lt_dec hlt, hx, hw, a2, hrl, hot, hxs, and_self, ht, ht2, Bool.not_true, Bool.not_false, List.length_map, List.getElem?_map, Option.map_some, Int.natCast_nonneg, Int.toNat_natCast]
                refine ⟨(), trivial, .back rfl ?_⟩
                simp +contextual only [go_sem, ↓reduceIte, Nat.reduceEqDiff, Nat.reduceAdd, Nat.reduceLeDiff, Nat.reduceLT, reduceCtorEq, low_toks]
end Go.Proofs.Ytlkejejgaenjcaa
