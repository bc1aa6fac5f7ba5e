/- Records of all transactions: both walks give the same (plain). -/
import Derived.Test.YtoccifhckpjfaaaRec37s
namespace Go.Proofs.Ytoccifhckpjfaaa
set_option linter.all false
open Go.Idl
set_option maxHeartbeats 4000000
set_option maxRecDepth 100000
theorem order_self {l : List EvD} (g : GdE l) : orderS l = (l, 0) := by
  have hb := badE_of g.val
  rw [orderS_def, hb, g.key]
  have d := ded_sort l
  generalize dedE [] none (sortS l) = r at *
  cases r with
  | some D => 
    have : D = l := srt_eq d.1 (srtB_pair g.srt) fun x => by rw [d.2 x]; simp
    rw [this]; rfl
  | none =>
    obtain ⟨a, b, g1, g2, g3, g4⟩ := d
    exact absurd (srt_inj (srtB_pair g.srt) (g1.resolve_left (by simp)) g2 g3) g4
theorem make_self {l : List EvD} (g : GdE l) (m : Int) : makeS l m = makeE l m := by
  have h0 : decide (l.length = 0) = false := by have := g.n1; simp; intro h; rw [h] at this; simp at this
  rw [makeS, h0, order_self g]; rfl
theorem one_iff2 {a b : EvD} : one a b = true ↔ a.station = b.station ∧ a.txn = b.txn := by simp [one]
theorem one_tr {a b c : EvD} (h1 : one a b = true) (h2 : one a c = true) : one b c = true := by
  rw [one_iff2] at *
  exact ⟨h1.1.symm.trans h2.1, h1.2.symm.trans h2.2⟩
theorem grp_gd {G : List EvD} {x : EvD} (hC : G.Pairwise good2) (hv : ∀ e, e ∈ G → evS e = 0) (hn : 1 ≤ G.length) (hl : G.length ≤ 100000) (ho : ∀ e, e ∈ G → one x e = true) : GdE G := by
  refine ⟨hn, hl, srtB_of ?_, ?_, hv⟩
  · refine (List.pairwise_iff_forall_sublist.2 fun {a b} hs => ?_)
    have hab := List.pairwise_iff_forall_sublist.1 hC hs
    have ha := ho a (hs.subset (by simp))
    have hb := ho b (hs.subset (by simp))
    rcases (bef_iff a b).1 hab.1 with h | h
    · have := (one_iff a b).1 (one_tr ha hb); omega
    · exact h.2
  · rw [keysB_iff]
    intro a b ha hb
    have h1 := one_iff2.1 (ho a ha)
    have h2 := one_iff2.1 (ho b hb)
    exact ⟨h1.1.symm.trans h2.1, h1.2.symm.trans h2.2⟩
theorem ofP_one (x e : EvD) : ofP x.station x.txn e = one x e := by
  rw [Bool.eq_iff_iff, one_iff2]
  simp only [ofP, Bool.and_eq_true, decide_eq_true_eq]
  exact ⟨fun h => ⟨h.1.symm, h.2.symm⟩, fun h => ⟨h.1.symm, h.2.symm⟩⟩
theorem grp_first {x : EvD} {l : List EvD} (hC : (x :: l).Pairwise good2) : ∀ e, e ∈ l.dropWhile (one x) → one x e = false := by
  have hp := List.pairwise_cons.1 hC
  intro e he
  cases hd : l.dropWhile (one x) with
  | nil => rw [hd] at he; simp at he
  | cons y R =>
    have hy : one x y = false := by
      have := List.head?_dropWhile_not (one x) l
      rw [hd] at this
      simpa using this
    have hyl : y ∈ l := (List.dropWhile_sublist (one x)).subset (by rw [hd]; simp)
    have hxy : cmpT (keyE x) (keyE y) < 0 := by
      rcases (bef_iff x y).1 (hp.1 y hyl).1 with h | h
      · exact h
      · rw [(one_iff x y).2 h.1] at hy; cases hy
    rw [hd] at he
    have hye : cmpT (keyE y) (keyE e) ≤ 0 := by
      rcases List.mem_cons.1 he with rfl | he
      · have := (one_iff e e).1 (by simp [one]); omega
      · have hR : (y :: R).Pairwise good2 := by
          rw [← hd]
          exact hp.2.sublist (List.dropWhile_sublist _)
        exact bef_le ((List.pairwise_cons.1 hR).1 e he).1
    have hxe : cmpT (keyE x) (keyE e) < 0 := by
      rcases Int.lt_or_eq_of_le hye with h | h
      · exact cmpT_trans hxy h
      · rw [← cmpT_congr' h (keyE x)]; exact hxy
    cases ho : one x e with
    | false => rfl
    | true => have := (one_iff x e).1 ho; omega
theorem filt_none {l : List EvD} {p : EvD → Bool} (h : ∀ e, e ∈ l → p e = false) : l.filter p = [] := by
  rw [List.filter_eq_nil_iff]
  intro e he hh
  rw [h e he] at hh; cases hh
theorem keysF_any {p : Option EvD} {l : List EvD} (h : ∀ q e, p = some q → l.head? = some e → one q e = false) : keysF p l = keysF none l := by
  cases l with
  | nil => cases p <;> rfl
  | cons e l =>
    rw [keysF, keysF]
    cases p with
    | none => rfl
    | some q =>
      have : newK (some q) e = true := by show (!one q e) = true; rw [h q e rfl rfl]; rfl
      rw [this]; rfl
theorem keysF_skip {x : EvD} : ∀ {l : List EvD} {q : EvD}, one x q = true → keysF (some q) l = keysF none (l.dropWhile (one x)) ∨ l.dropWhile (one x) = [] ∧ keysF (some q) l = []
  | [], q, _ => .inr ⟨rfl, rfl⟩
  | e :: l, q, hq => by
    cases he : one x e with
    | true =>
      have hqe : one q e = true := one_tr hq he
      have h1 : keysF (some q) (e :: l) = keysF (some e) l := by
        rw [keysF]
        have : newK (some q) e = false := by show (!one q e) = false; rw [hqe]; rfl
        rw [this]; rfl
      rw [h1, List.dropWhile_cons_of_pos he]
      exact keysF_skip he
    | false =>
      have hqe : one q e = false := by
        cases h : one q e with
        | false => rfl
        | true =>
          have h3 : one x e = true := by
            rw [one_iff2] at *
            exact ⟨hq.1.trans h.1, hq.2.trans h.2⟩
          rw [h3] at he; cases he
      rw [List.dropWhile_cons_of_neg (by rw [he]; simp)]
      exact .inl (keysF_any fun q' e' h1 h2 => by cases h1; cases h2; exact hqe)
theorem keysF_grp (x : EvD) (l : List EvD) : keysF none (x :: l) = [x.station, x.txn] :: keysF none (l.dropWhile (one x)) := by
  rw [keysF]
  show [[x.station, x.txn]] ++ keysF (some x) l = _
  rcases keysF_skip (x := x) (l := l) (q := x) (by simp [one]) with h | ⟨h1, h2⟩
  · rw [h]; rfl
  · rw [h1, h2]; rfl
theorem keysF_mem : ∀ {l : List EvD} {p : Option EvD} {k : List ByteArray}, k ∈ keysF p l → ∃ e, e ∈ l ∧ k = [e.station, e.txn]
  | [], p, k, h => by cases p <;> simp [keysF] at h
  | e :: l, p, k, h => by
    rw [keysF] at h
    rcases List.mem_append.1 h with h | h
    · cases hn : newK p e with
      | true => rw [hn, cond_true, List.mem_singleton] at h; exact ⟨e, by simp, h⟩
      | false => rw [hn] at h; simp at h
    · obtain ⟨e', h1, h2⟩ := keysF_mem h
      exact ⟨e', List.mem_cons_of_mem _ h1, h2⟩
theorem keyOk_of {c : List EvD} (hC : Coll c) {k : List ByteArray} (hk : k ∈ keysF none c) : keyOk c k = true := by
  obtain ⟨e, he, rfl⟩ := keysF_mem hk
  show gdE (c.filter (ofP e.station e.txn)) = true
  have hf : ∀ y, y ∈ c.filter (ofP e.station e.txn) → y ∈ c ∧ one e y = true := fun y hy => by
    rw [List.mem_filter, ofP_one] at hy; exact hy
  refine gdE_iff.2 (grp_gd (x := e) (hC.ord.sublist List.filter_sublist) (fun y hy => hC.ok y (hf y hy).1) ?_ ?_ fun y hy => (hf y hy).2)
  · exact List.length_pos_of_mem (List.mem_filter.2 ⟨he, by rw [ofP_one]; simp [one]⟩)
  · have := List.length_filter_le (ofP e.station e.txn) c
    have := hC.len; omega
theorem allOk_of {c : List EvD} (hC : Coll c) : allOk c = true := by
  rw [allOk, Bool.and_eq_true, decide_eq_true_eq, List.all_eq_true]
  exact ⟨by have := hC.len; omega, fun k hk => keyOk_of hC hk⟩
theorem all_eq (m : Int) : ∀ (n : Nat) (c A : List EvD), c.length ≤ n → Coll (A ++ c) → (∀ a e, a ∈ A → e ∈ c → one e a = false) → allL c m = refA (A ++ c) m (keysF none c)
  | _, [], A, _, _, _ => by rw [allL]; rfl
  | 0, x :: l, A, hn, _, _ => by simp at hn
  | n + 1, x :: l, A, hn, hC, hA => by
    have hp := (List.pairwise_append.1 hC.ord).2.1
    have hfirst := grp_first hp
    have hT : ∀ e, e ∈ l.takeWhile (one x) → one x e = true := fun e he => List.all_eq_true.1 (List.all_takeWhile (p := one x) (l := l)) e he
    have hxx : one x x = true := by simp [one]
    have hsplit : x :: l = (x :: l.takeWhile (one x)) ++ l.dropWhile (one x) := by rw [List.cons_append, List.takeWhile_append_dropWhile]
    have hfil : (A ++ (x :: l)).filter (ofP x.station x.txn) = x :: l.takeWhile (one x) := by
      have hfn : (fun e => ofP x.station x.txn e) = one x := funext fun e => ofP_one x e
      have hfn' : ofP x.station x.txn = one x := hfn
      rw [hfn', List.filter_append, filt_none fun a ha => hA a x ha (by simp), List.nil_append, hsplit, List.filter_append, filt_none hfirst, List.append_nil]
      exact List.filter_eq_self.2 fun e he => by
        rcases List.mem_cons.1 he with rfl | he
        · exact hxx
        · exact hT e he
    have hlen : (x :: l.takeWhile (one x)).length ≤ 100000 := by
      have h1 := hC.len
      have h2 := (List.takeWhile_sublist (one x) (l := l)).length_le
      simp at h1 ⊢; omega
    have hgd : GdE (x :: l.takeWhile (one x)) := by
      refine grp_gd (x := x) (hp.sublist ((List.takeWhile_sublist (one x)).cons_cons x)) (fun e he => hC.ok e ?_) (by simp) hlen fun e he => ?_
      · refine List.mem_append_right _ ?_
        rw [hsplit]; exact List.mem_append_left _ he
      · rcases List.mem_cons.1 he with rfl | he
        · exact hxx
        · exact hT e he
    have heq : A ++ (x :: l) = (A ++ (x :: l.takeWhile (one x))) ++ l.dropWhile (one x) := by rw [List.append_assoc, ← hsplit]
    have ih := all_eq m n (l.dropWhile (one x)) (A ++ (x :: l.takeWhile (one x))) (by
      have := (List.dropWhile_sublist (one x) (l := l)).length_le
      simp at hn; omega) (by rw [← heq]; exact hC) fun a e ha he => by
        rcases List.mem_append.1 ha with ha | ha
        · exact hA a e ha (List.mem_cons_of_mem _ ((List.dropWhile_sublist (one x)).subset he))
        · have h1 : one x a = true := by
            rcases List.mem_cons.1 ha with rfl | ha
            · exact hxx
            · exact hT a ha
          have h2 := hfirst e he
          cases h3 : one e a with
          | false => rfl
          | true =>
            have h4 : one x e = true := by
              rw [one_iff2] at *
              exact ⟨h1.1.trans h3.1.symm, h1.2.trans h3.2.symm⟩
            rw [h4] at h2; cases h2
    rw [allL_cons, keysF_grp, ih, ← heq]
    show _ = okR (makeE ((A ++ (x :: l)).filter (ofP x.station x.txn)) m) ++ refA (A ++ (x :: l)) m (keysF none (l.dropWhile (one x)))
    rw [hfil, make_self hgd]
theorem all_law {c : List EvD} (hC : Coll c) (m : Int) : allL c m = refA c m (keysF none c) := all_eq m c.length c [] (Nat.le_refl _) hC (by simp)
end Go.Proofs.Ytoccifhckpjfaaa
