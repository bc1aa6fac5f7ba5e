/- A shelf is closed. -/
import Derived.Test.YtalhbhbkdfmhgaaDir45d
namespace Go.Proofs.Ytalhbhbkdfmhgaa
set_option linter.all false
open Go.Idl
set_option maxHeartbeats 4000000
set_option maxRecDepth 100000
attribute [local go_sem] agObj agDir agOK agSh Try.underlying3 Try.underlying5 Try.underlying9
theorem isF_mks (l : List MarkD) : (l.map Cod.enc).all V.isF = true := by
  simp only [List.all_map, List.all_eq_true]
  intro x _
  rfl
theorem isF_mksM (m : List (OKeyD × MarkD)) : (valsM m).all V.isF = true := by
  simp only [valsM, List.all_map, List.all_eq_true]
  intro x _
  rfl
structure CL where
  left : List Nat
  last : Option Nat
  acc : List MarkD
  lid : Nat
  n : Nat
  H : Heap
abbrev zeroMC : V := .agg [.sc (.int .i64 0), .sc (.string ⟨#[]⟩), .sc (.string ⟨#[]⟩), .sc (.int .i64 0), .sc (.bool false), .sc (.slice none 0 0), .sc (.int .i64 0)]
abbrev zeroDC : V := .agg [.sc (.string ⟨#[]⟩), .sc (.slice none 0 0), .sc (.slice none 0 0), .sc (.int .i64 0)]
def valD (m : List (OKeyD × MarkD)) (j : Nat) : Option MarkD := (m[j]?).map (·.2)
structure CLinv (H0 : Heap) (r mp n0 : Nat) (next : Int) (m : List (OKeyD × MarkD)) (p : CL) : Prop where
  hr : p.H r = .live 2 [shX mp next] true
  h0 : p.H n0 = .live 4 [zeroDC] true
  hi : p.H (n0 + 2) = .ext (.miter (keysM m) (valsM m) p.left p.last)
  hl : p.H p.lid = .live 7 (p.acc.map Cod.enc) true
  hu : ∀ k, p.H (p.n + k) = .unborn
  hn : n0 + 3 ≤ p.n
  hln : p.lid < p.n
  l1 : p.lid ≠ n0
  l2 : p.lid ≠ n0 + 2
  l3 : p.lid ≠ r
  nd : p.left.Nodup
  lt : ∀ j, j ∈ p.left → j < m.length
  pm : (p.acc ++ p.left.filterMap (valD m)).Perm (m.map (·.2))
  fr : ∀ id, id < n0 → id ≠ mp → p.H id = H0 id
  l0 : n0 ≤ p.lid
def DR (H : Heap) (b : Nat) (S : List MarkD) (vo vm : V) : Prop := (S = [] ∧ vo = .sc (.slice none 0 0) ∧ vm = .sc (.slice none 0 0)) ∨
  ∃ oid mid, vo = .own oid 0 S.length ∧ vm = .own mid 0 S.length ∧ H oid = .live 6 (S.map fun x => Cod.enc x.object) true ∧ H mid = .live 1 (S.map fun x => Cod.enc x.mark) true ∧ b ≤ oid ∧ b ≤ mid ∧ oid ≠ mid
structure DL where
  pre : List MarkD
  vo : V
  vm : V
  n : Nat
  H : Heap
structure DLinv (H0 : Heap) (mp : Nat) (party : ByteArray) (next : Int) (lid n0 np : Nat) (S : List MarkD) (p : DL) : Prop where
  h8 : p.H np = .live 4 [.agg [.sc (.string party), p.vo, p.vm, .sc (.int .i64 next)]] true
  h4 : p.H n0 = .live 4 [zeroDC] true
  hl : p.H lid = .live 7 (S.map Cod.enc) true
  hu : ∀ k, p.H (p.n + k) = .unborn
  hn : np + 2 ≤ p.n
  v : DR p.H (np + 2) p.pre p.vo p.vm
  fr : ∀ id, id < n0 → id ≠ mp → p.H id = H0 id
theorem entry_none {P : Program} {Φ : Specs} {τ : Nat → V} {H : Heap} {n k it ty a b : Nat} (hx : τ k = .ref it a b) : evIO P Φ n τ H (.pur (pu (.entry (.tmp k)) ty)) = none := by
  simp only [evIO, evPure]
  rw [if_neg]
  simp [pu, Op.operands, opd, hx, V.conc]
theorem less_irrefl : ∀ l : List UInt8, Op.bytesLess l l = false
  | [] => rfl
  | x :: l => by simp [Op.bytesLess, less_irrefl l]
theorem cmpM_self (a : MarkD) : cmpM a a = 0 := by
  simp [cmpM, firstNZ, cmpI, cmpT, ltS, less_irrefl]
theorem cmpM_mark {a b : MarkD} (h : a.mark ≠ b.mark) : cmpM a b = cmpI a.mark b.mark := by
  have : cmpI a.mark b.mark ≠ 0 := by unfold cmpI; split <;> (try split) <;> omega
  simp [cmpM, firstNZ, this]
def InjM (l : List MarkD) : Prop := ∀ a, a ∈ l → ∀ b, b ∈ l → a.mark = b.mark → a = b
theorem cmpM_neg {l : List MarkD} (hj : InjM l) {a b : MarkD} (ha : a ∈ l) (hb : b ∈ l) : cmpM a b < 0 ↔ a.mark < b.mark := by
  by_cases h : a.mark = b.mark
  · have e := hj a ha b hb h
    subst e
    rw [cmpM_self]
    omega
  · rw [cmpM_mark h]
    unfold cmpI
    split <;> (try split) <;> omega
def cdM (x y : V) : Int := match (Cod.dec x : Option MarkD), (Cod.dec y : Option MarkD) with
  | some a, some b => cmpM a b
  | _, _ => 0
theorem cdM_enc (a b : MarkD) : cdM (Cod.enc a) (Cod.enc b) = cmpM a b := by simp only [cdM, Cod.dec_enc]
theorem sortMarks (hsort : SortT Try.prog 67 7) (hcmp : Contract Try.prog 68 SCmpM) {C : Ctx} {s : SF} {lid : Nat} {acc S : List MarkD} {K : V → SF → Prop}
    (hH : s.H lid = .live 7 (acc.map Cod.enc) true) (hlen : acc.length ≤ 1000000) (hS : S.Perm acc) (hSs : S.Pairwise fun a b => a.mark < b.mark)
    (hK : K (.tup []) ⟨s.τ, updH s.H lid (.live 7 (S.map Cod.enc) true), s.n⟩) :
    CallT Try.prog C 67 [.own lid 0 acc.length, .sc (.func (.func 68) #[] #[])] s K := by
  have hjS : InjM S := by
    intro a ha b hb h
    obtain ⟨i, hi, rfl⟩ := List.getElem_of_mem ha
    obtain ⟨j, hj, rfl⟩ := List.getElem_of_mem hb
    rw [List.pairwise_iff_getElem] at hSs
    rcases Nat.lt_trichotomy i j with h1 | h1 | h1
    · have := hSs i j hi hj h1; omega
    · subst h1; rfl
    · have := hSs j i hj hi h1; omega
  have hj : InjM acc := fun a ha b hb h => hjS a (hS.mem_iff.2 ha) b (hS.mem_iff.2 hb) h
  have ht : (acc.map Cod.enc).take acc.length = acc.map Cod.enc := List.take_of_length_le (by simp)
  have hdr : (acc.map Cod.enc : List V).drop acc.length = [] := by simp
  have mem : ∀ {x : V}, x ∈ acc.map Cod.enc → ∃ a, a ∈ acc ∧ Cod.enc a = x := fun h => by simpa using h
  refine hsort C 68 (facts_enters ic68) SCmpM hcmp s lid acc.length (acc.map Cod.enc) cdM hH (by simp) (by omega) ?_ ?_ ?_ ?_ ?_ ?_ K ?_
  all_goals rw [ht]
  · intro e he
    obtain ⟨a, _, rfl⟩ := mem he
    exact ⟨_, rfl⟩
  · intro e he
    obtain ⟨a, _, rfl⟩ := mem he
    rfl
  · intro x hx y hy
    obtain ⟨a, _, rfl⟩ := mem hx
    obtain ⟨b, _, rfl⟩ := mem hy
    rw [cdM_enc]
    show FTb _ (CodA.decA [Cod.enc a, Cod.enc b] : Option (MarkD × MarkD × Unit)) = _
    have : (CodA.decA [Cod.enc a, Cod.enc b] : Option (MarkD × MarkD × Unit)) = some (a, b, ()) := by
      simp only [decA_cons, decA_unit, Cod.dec_enc, dec2]
    rw [this]
    rfl
  · intro x hx
    obtain ⟨a, ha, rfl⟩ := mem hx
    rw [cdM_enc, cmpM_self]
    omega
  · intro x hx y hy z hz
    obtain ⟨a, ha, rfl⟩ := mem hx
    obtain ⟨b, hb, rfl⟩ := mem hy
    obtain ⟨c, hc, rfl⟩ := mem hz
    rw [cdM_enc, cdM_enc, cdM_enc, cmpM_neg hj ha hb, cmpM_neg hj hb hc, cmpM_neg hj ha hc]
    omega
  · intro x hx y hy z hz
    obtain ⟨a, ha, rfl⟩ := mem hx
    obtain ⟨b, hb, rfl⟩ := mem hy
    obtain ⟨c, hc, rfl⟩ := mem hz
    rw [cdM_enc, cdM_enc, cdM_enc, cmpM_neg hj ha hb, cmpM_neg hj hb hc, cmpM_neg hj ha hc]
    omega
  · intro es' hp hs
    rw [hdr, List.append_nil]
    have hdec : es' = (es'.filterMap (Cod.dec : V → Option MarkD)).map Cod.enc := by
      have all : ∀ x, x ∈ es' → ∃ a : MarkD, Cod.enc a = x := fun x hx => (mem (hp.mem_iff.1 hx)).imp fun a h => h.2
      clear hs hp
      induction es' with
      | nil => rfl
      | cons x xs ih =>
        obtain ⟨a, rfl⟩ := all x (by simp)
        rw [List.filterMap_cons_some (Cod.dec_enc a), List.map_cons, ← ih fun y hy => all y (by simp [hy])]
    have hpa : (es'.filterMap (Cod.dec : V → Option MarkD)).Perm acc := by
      have := hp.filterMap (Cod.dec : V → Option MarkD)
      rwa [List.filterMap_map, show (Cod.dec ∘ Cod.enc : MarkD → Option MarkD) = some from funext fun a => Cod.dec_enc a, List.filterMap_some] at this
    have heq : es'.filterMap (Cod.dec : V → Option MarkD) = S := by
      refine List.Perm.eq_of_pairwise (le := fun a b => a.mark ≤ b.mark) (fun a b ha hb h1 h2 => ?_) ?_ (hSs.imp fun h => by omega) (hpa.trans hS.symm)
      · exact hj a (hpa.mem_iff.1 ha) b (hS.mem_iff.1 hb) (by omega)
      · rw [hdec, List.pairwise_map] at hs
        refine hs.imp_of_mem fun {a b} ha hb h => ?_
        rw [cdM_enc, cmpM_neg hj (hpa.mem_iff.1 hb) (hpa.mem_iff.1 ha)] at h
        omega
    rw [hdec, heq]
    exact hK
theorem updH_ne {H : Heap} {k id : Nat} {x : Idl.Obj} (h : id ≠ k) : updH H k x id = H id := by unfold updH; rw [if_neg h]
theorem updH_at {H : Heap} {k : Nat} {x : Idl.Obj} : updH H k x k = x := by unfold updH; rw [if_pos rfl]
theorem drop_pre {α : Type} {l a xs : List α} {x : α} {i : Nat} (hd : l.drop i = x :: xs) (h : l = a ++ (x :: xs)) : i = a.length := by
  have h1 := congrArg List.length hd
  have h2 := congrArg List.length h
  simp at h1 h2
  omega
theorem fm_congr {α β : Type} {f g : α → Option β} : ∀ {l : List α}, (∀ a, a ∈ l → f a = g a) → l.filterMap f = l.filterMap g
  | [], _ => rfl
  | a :: l, h => by rw [List.filterMap_cons, List.filterMap_cons, h a (by simp), fm_congr fun b hb => h b (by simp [hb])]
theorem app_ind {α : Type} {p : List α → Prop} (h0 : p []) (h : ∀ l a, p l → p (l ++ [a])) : ∀ l, p l := by
  intro l
  rw [← List.reverse_reverse l]
  generalize l.reverse = r
  induction r with
  | nil => exact h0
  | cons a r ih => rw [List.reverse_cons]; exact h _ _ ih
theorem range_val : ∀ (m : List (OKeyD × MarkD)), (List.range m.length).filterMap (valD m) = m.map (·.2) := by
  refine app_ind rfl fun m x ih => ?_
  rw [List.length_append, List.length_singleton, List.range_succ, List.filterMap_append, List.map_append]
  congr 1
  · rw [← ih]
    refine fm_congr fun j hj => ?_
    have hj' : j < m.length := by simpa using hj
    simp [valD, hj', List.getElem?_append_left]
  · simp [valD]
theorem perm_left {l : List Nat} {j : Nat} (hn : l.Nodup) (hj : j ∈ l) : l.Perm (j :: l.filter fun x => decide (x ≠ j)) := by
  have h := List.perm_cons_erase hj
  rw [hn.erase_eq_filter] at h
  have e : (l.filter fun x => x != j) = l.filter fun x => decide (x ≠ j) := List.filter_congr fun x _ => by
    by_cases h : x = j <;> simp [h]
  rwa [e] at h
theorem ct58 {Φ : Specs} (hg : Idl.Good Try.prog Φ) (h55 : Φ 55 = some SFre) (hsf : Φ 67 = none) (hsort : SortT Try.prog 67 7) (hcmp : Contract Try.prog 68 SCmpM) {C : Ctx} {H0 : Heap} {n r mp : Nat} {party : ByteArray} {next : Int} {m : List (OKeyD × MarkD)} {τ : Nat → V} {K : V → SF → Prop}
    (hr : r < n) (hmp : mp < n) (hne : r ≠ mp) (hR : H0 r = .live 2 [shX mp next] true) (hM : H0 mp = .ext (.map (keysM m) (valsM m))) (hun : ∀ k, H0 (n + k) = .unborn)
    (hml : m.length ≤ 100000) {S : List MarkD} (hS : S.Perm (m.map (·.2))) (hSs : S.Pairwise fun a b => a.mark < b.mark) (hdat : ∀ x, x ∈ S → x.object.data.length ≤ 1000000)
    (hk : ∀ τ' n' H' vo vm, DR H' n S vo vm → (∀ id, id < n → id ≠ mp → H' id = H0 id) → (∀ k, H' (n' + k) = .unborn) → n ≤ n' → K (.agg [.sc (.string party), vo, vm, .sc (.int .i64 next)]) ⟨τ', H', n'⟩) :
    CallT Try.prog C 58 [.ref r 0 0, .sc (.string party)] ⟨τ, H0, n⟩ K := by
  refine CallT.of_walk hg k58 ic58 (by simp) fun C' hlow' => ?_
  have hu0 : H0 n = .unborn := hun 0
  have rn : (r = n) = False := by simp; omega
  have mn : (mp = n) = False := by simp; omega
  have nr : (n = r) = False := by simp; omega
  have nm : (n = mp) = False := by simp; omega
  have rnk : ∀ k, (r = n + k) = False := fun k => by simp; omega
  have mnk : ∀ k, (mp = n + k) = False := fun k => by simp; omega
  have nrk : ∀ k, (n + k = r) = False := fun k => by simp; omega
  have nmk : ∀ k, (n + k = mp) = False := fun k => by simp; omega
  have e1 : (r = mp) = False := eq_false hne
  have e2 : (mp = r) = False := eq_false (Ne.symm hne)
  have c1 : (0 : Int) ≤ (m.length : Int) := by omega
  have c2 : 88 * m.length ≤ 281474976710656 := by omega
  have c3 : (m.length : Int) ≤ 4294967296 := by omega
  simp +contextual only [go_sem, ↓reduceIte, Nat.reduceEqDiff, Nat.reduceAdd, Nat.reduceLeDiff, Nat.reduceLT, reduceCtorEq, c58, k58, hun, hu0, hR, hM, rn, mn, nr, nm, rnk, mnk, nrk, nmk, e1, e2, c1, c2, c3, Int.le_refl, Int.toNat_natCast, Int.toNat_zero, List.replicate_zero, Nat.add_eq_left, Nat.left_eq_add, Nat.add_assoc, true_and, and_true]
  refine stepI_rangeM Try.underlying117 rfl (ks := keysM m) (vs := valsM m) (id := mp) (by simp only [updH, mn, mnk, if_false, hM]) (isF_mksM m) (by simp only [updH, Nat.add_left_cancel_iff, Nat.add_eq_left, if_false, hun]; rfl) rfl ?_
  simp +contextual only [go_sem, ↓reduceIte, Nat.reduceEqDiff, Nat.reduceAdd, Nat.reduceLeDiff, Nat.reduceLT, reduceCtorEq, k58, Nat.add_eq_left, Nat.left_eq_add, Nat.add_assoc]
  refine TriI.loopA hg k58 (fun p : CL => ⟨slotsL [(0, .ref r 0 0), (1, .sc (.string party)), (4, .ref n 0 0), (5, .own p.lid 0 p.acc.length), (21, .ref (n + 2) 0 0)], p.H, p.n⟩) (CLinv H0 r mp n next m) (fun p => p.left.length)
    ⟨List.range m.length, none, [], n + 1, n + 3, updH (updH (updH (updH H0 n (.live 4 [zeroDC] true)) (n + 1) (.live 7 [] true)) mp .dead) (n + 2) (.ext (.miter (keysM m) (valsM m) (List.range m.length) none))⟩ (.slots ?_) ?_ ?_
  · simp +contextual only [go_sem, ↓reduceIte, Nat.reduceEqDiff, Nat.reduceAdd, Nat.reduceLeDiff, Nat.reduceLT, reduceCtorEq]
  · refine ⟨(updH_ne (by first | omega | (dsimp only; omega))).trans ((updH_ne (by first | omega | (dsimp only; omega))).trans ((updH_ne (by first | omega | (dsimp only; omega))).trans ((updH_ne (by first | omega | (dsimp only; omega))).trans (hR)))), (updH_ne (by first | omega | (dsimp only; omega))).trans ((updH_ne (by first | omega | (dsimp only; omega))).trans ((updH_ne (by first | omega | (dsimp only; omega))).trans (updH_at))), updH_at, (updH_ne (by first | omega | (dsimp only; omega))).trans ((updH_ne (by first | omega | (dsimp only; omega))).trans (updH_at)), fun k => (updH_ne (by first | omega | (dsimp only; omega))).trans ((updH_ne (by first | omega | (dsimp only; omega))).trans ((updH_ne (by first | omega | (dsimp only; omega))).trans ((updH_ne (by first | omega | (dsimp only; omega))).trans ((congrArg H0 (Nat.add_assoc _ _ _)).trans (hun _))))), Nat.le_refl _, by dsimp only; omega, by dsimp only; omega, by dsimp only; omega, by dsimp only; omega, List.nodup_range, fun j hj => by simpa using hj, ?_, fun id h1 h2 => (updH_ne (by first | omega | (dsimp only; omega))).trans ((updH_ne (by first | omega | (dsimp only; omega))).trans ((updH_ne (by first | omega | (dsimp only; omega))).trans ((updH_ne (by first | omega | (dsimp only; omega))).trans (rfl)))), by dsimp only; omega⟩
    rw [List.nil_append, range_val]
  · intro p hp
    obtain ⟨left, last, acc, lid, np, H⟩ := p
    obtain ⟨g1, g2, g3, g4, g5, g6, g7, g8, g9, g10, g11, g12, g13, g14, g15⟩ := hp
    dsimp only at g1 g2 g3 g4 g5 g6 g7 g8 g9 g10 g11 g12 g13 g14 g15 ⊢
    have hnp : H np = .unborn := g5 0
    have hlen : acc.length + (left.filterMap (valD m)).length = m.length := by have := g13.length_eq; simpa using this
    simp +contextual only [go_sem, ↓reduceIte, Nat.reduceEqDiff, Nat.reduceAdd, Nat.reduceLeDiff, Nat.reduceLT, reduceCtorEq, k58, g1, g2, g3, g4, g5, hnp, Nat.add_eq_left, Nat.left_eq_add, Nat.add_assoc]
    refine stepI_nextM rfl g3 rfl (fun hd => ?_) fun j hj hjl => ?_
    · have hl0 : left = [] := List.eq_nil_iff_forall_not_mem.2 fun j hj => hd j (by rw [keysM_len]; exact g12 j hj) hj
      subst hl0
      rw [List.filterMap_nil, List.append_nil] at g13
      simp +contextual only [go_sem, ↓reduceIte, Nat.reduceEqDiff, Nat.reduceAdd, Nat.reduceLeDiff, Nat.reduceLT, reduceCtorEq, k58, g1, g2, g3, g4, g5, hnp, hsf, Nat.add_eq_left, Nat.left_eq_add, Nat.add_assoc]
      refine sortMarks hsort hcmp g4 (by simp at hlen; omega) (hS.trans g13.symm) hSs ?_
      have a1 : (r = lid) = False := eq_false (Ne.symm g10)
      have a2 : (n = lid) = False := eq_false (Ne.symm g8)
      have a3 : (lid = np) = False := by simp; omega
      have a4 : ∀ k, (np + k = lid) = False := fun k => by simp; omega
      have a5 : (np = lid) = False := by simp; omega
      have hSl : S.length = acc.length := by rw [hS.length_eq, ← g13.length_eq]
      simp +contextual only [go_sem, ↓reduceIte, Nat.reduceEqDiff, Nat.reduceAdd, Nat.reduceLeDiff, Nat.reduceLT, reduceCtorEq, k58, g1, g2, g3, g4, g5, hnp, hsf, a1, a2, a3, a4, a5, hSl, Nat.add_eq_left, Nat.left_eq_add, Nat.add_assoc]
      have b4 : ∀ k, (np + k = n) = False := fun k => by simp; omega
      have b5 : (np = n) = False := by simp; omega
      have b6 : (n = np) = False := by simp; omega
      have b7 : (lid = n) = False := eq_false g8
      refine TriI.loopL hg k58 S (fun i (p : DL) => ⟨slotsL [(4, .ref n 0 0), (8, .ref np 0 0), (38, .own lid 0 acc.length), (39, .sc (.int .i64 acc.length)), (40, .sc (.int .i64 i))], p.H, p.n⟩)
        (fun xs p => S = p.pre ++ xs ∧ DLinv H0 mp party next lid n np S p) ⟨[], .sc (.slice none 0 0), .sc (.slice none 0 0), np + 2, updH (updH (updH H lid (.live 7 (S.map Cod.enc) true)) np (.live 4 [zeroDC] true)) np (.live 4 [.agg [.sc (.string party), .sc (.slice none 0 0), .sc (.slice none 0 0), .sc (.int .i64 next)]] true)⟩ (.slots ?_) ?_ ?_ ?_
      · simp +contextual only [go_sem, ↓reduceIte, Nat.reduceEqDiff, Nat.reduceAdd, Nat.reduceLeDiff, Nat.reduceLT, reduceCtorEq]
        rfl
      · exact ⟨rfl, updH_at, (updH_ne (by first | omega | (dsimp only; omega))).trans ((updH_ne (by first | omega | (dsimp only; omega))).trans ((updH_ne (by first | omega | (dsimp only; omega))).trans (g2))), (updH_ne (by first | omega | (dsimp only; omega))).trans ((updH_ne (by first | omega | (dsimp only; omega))).trans (updH_at)), fun k => (updH_ne (by first | omega | (dsimp only; omega))).trans ((updH_ne (by first | omega | (dsimp only; omega))).trans ((updH_ne (by first | omega | (dsimp only; omega))).trans ((congrArg H (Nat.add_assoc _ _ _)).trans (g5 _)))), Nat.le_refl _, .inl ⟨rfl, rfl, rfl⟩, fun id h1 h2 => (updH_ne (by first | omega | (dsimp only; omega))).trans ((updH_ne (by first | omega | (dsimp only; omega))).trans ((updH_ne (by first | omega | (dsimp only; omega))).trans (g14 id h1 h2)))⟩
      · rintro ⟨pre, vo, vm, nq, H'⟩ ⟨q0, q1, q2, q3, q4, q5, q6, q7⟩
        dsimp only at q0 q1 q2 q3 q4 q5 q6 q7 ⊢
        rw [List.append_nil] at q0
        subst q0
        rw [hSl]
        rcases q6 with ⟨e0, rfl, rfl⟩ | ⟨oid, mid, rfl, rfl, q8, q9, q10, q11, q12⟩
        · simp +contextual only [go_sem, ↓reduceIte, Nat.reduceEqDiff, Nat.reduceAdd, Nat.reduceLeDiff, Nat.reduceLT, reduceCtorEq, k58, Int.lt_irrefl, decide_false, q1, q2, b5, b6]
          exact hk _ _ _ _ _ (.inl ⟨e0, rfl, rfl⟩) (fun id h1 h2 => (updH_ne (by omega)).trans (q7 id h1 h2)) (fun k => (updH_ne (by omega)).trans ((congrArg H' (Nat.add_assoc _ _ _)).trans (q4 _))) (by omega)
        · simp +contextual only [go_sem, ↓reduceIte, Nat.reduceEqDiff, Nat.reduceAdd, Nat.reduceLeDiff, Nat.reduceLT, reduceCtorEq, k58, Int.lt_irrefl, decide_false, q1, q2, b5, b6]
          exact hk _ _ _ _ _ (.inr ⟨oid, mid, rfl, rfl, (updH_ne (by omega)).trans q8, (updH_ne (by omega)).trans q9, by omega, by omega, q12⟩) (fun id h1 h2 => (updH_ne (by omega)).trans (q7 id h1 h2)) (fun k => (updH_ne (by omega)).trans ((congrArg H' (Nat.add_assoc _ _ _)).trans (q4 _))) (by omega)
      · intro i p x xs hd hlt hx hinv
        obtain ⟨pre, vo, vm, nq, H'⟩ := p
        obtain ⟨q0, q1, q2, q3, q4, q5, q6, q7⟩ := hinv
        dsimp only at q0 q1 q2 q3 q4 q5 q6 q7 ⊢
        have hlt' : i < acc.length := by omega
        have hal : acc.length ≤ 100000 := by simp at hlen; omega
        have hw := wrap_nat hlt' (by omega)
        have hnq : H' nq = .unborn := q4 0
        have hlz : (i : Int) < (acc.length : Int) := by omega
        have hxd := hdat x (by rw [q0]; simp)
        have k80 : (1 * 80 ≤ 68719476736) = True := by decide
        have k8 : (1 * 8 ≤ 68719476736) = True := by decide
        have k1 : (1 ≤ 4294967296) = True := by decide
        rcases q6 with ⟨rfl, rfl, rfl⟩ | ⟨oid, mid, rfl, rfl, q8, q9, q10, q11, q12⟩
        · have ll : lid < np := g7
          have z0 : (np = nq) = False := by simp; omega
          have z1 : (nq = np) = False := by simp; omega
          have z2 : ∀ k, (np = nq + k) = False := fun k => by simp; omega
          have z3 : ∀ k, (nq + k = np) = False := fun k => by simp; omega
          have z4 : (lid = nq) = False := by simp; omega
          have z5 : (nq = lid) = False := by simp; omega
          have z6 : ∀ k, (lid = nq + k) = False := fun k => by simp; omega
          have z7 : ∀ k, (nq + k = lid) = False := fun k => by simp; omega
          have z8 : (np = lid) = False := by simp; omega
          have z9 : (lid = np) = False := by simp; omega
          simp +contextual only [go_sem, ↓reduceIte, Nat.reduceEqDiff, Nat.reduceAdd, Nat.reduceLeDiff, Nat.reduceLT, reduceCtorEq, k58, q1, q2, q3, hnq, q4, k80, k8, k1, z0, z1, z2, z3, z4, z5, z6, z7, z8, z9, lt_dec hlt', hlz, hx, hw, h55, hxd, okE, List.length_map, List.getElem?_map, Option.map_some, Int.natCast_nonneg, Int.toNat_natCast, Nat.zero_add, Nat.add_zero, List.drop_zero, Nat.add_eq_left, Nat.left_eq_add, Nat.add_assoc, true_and, and_true]
          refine ⟨by simp [apartI, apartAll, clash, List.range, List.range.loop, z0, z1, z2, z3]; decide, ⟨[x], .own (nq + 8) 0 1, .own (nq + 12) 0 1, nq + 14, updH (updH (updH (updH (updH (updH (updH (updH H' nq (.live 7 [zeroMC] true)) nq (.live 7 [Cod.enc x] true)) (nq + 7) (.live 6 [Cod.enc x.object] true)) (nq + 8) (.live 6 [Cod.enc x.object] true)) np (.live 4 [.agg [.sc (.string party), .own (nq + 8) 0 1, .sc (.slice none 0 0), .sc (.int .i64 next)]] true)) (nq + 11) (.live 1 [Cod.enc x.mark] true)) (nq + 12) (.live 1 [Cod.enc x.mark] true)) np (.live 4 [.agg [.sc (.string party), .own (nq + 8) 0 1, .own (nq + 12) 0 1, .sc (.int .i64 next)]] true)⟩, ⟨q0, updH_at, (updH_ne (by first | omega | (dsimp only; omega))).trans ((updH_ne (by first | omega | (dsimp only; omega))).trans ((updH_ne (by first | omega | (dsimp only; omega))).trans ((updH_ne (by first | omega | (dsimp only; omega))).trans ((updH_ne (by first | omega | (dsimp only; omega))).trans ((updH_ne (by first | omega | (dsimp only; omega))).trans ((updH_ne (by first | omega | (dsimp only; omega))).trans ((updH_ne (by first | omega | (dsimp only; omega))).trans (q2)))))))), (updH_ne (by first | omega | (dsimp only; omega))).trans ((updH_ne (by first | omega | (dsimp only; omega))).trans ((updH_ne (by first | omega | (dsimp only; omega))).trans ((updH_ne (by first | omega | (dsimp only; omega))).trans ((updH_ne (by first | omega | (dsimp only; omega))).trans ((updH_ne (by first | omega | (dsimp only; omega))).trans ((updH_ne (by first | omega | (dsimp only; omega))).trans ((updH_ne (by first | omega | (dsimp only; omega))).trans (q3)))))))), fun k => (updH_ne (by first | omega | (dsimp only; omega))).trans ((updH_ne (by first | omega | (dsimp only; omega))).trans ((updH_ne (by first | omega | (dsimp only; omega))).trans ((updH_ne (by first | omega | (dsimp only; omega))).trans ((updH_ne (by first | omega | (dsimp only; omega))).trans ((updH_ne (by first | omega | (dsimp only; omega))).trans ((updH_ne (by first | omega | (dsimp only; omega))).trans ((updH_ne (by first | omega | (dsimp only; omega))).trans ((congrArg H' (Nat.add_assoc _ _ _)).trans (q4 _))))))))), by dsimp only; omega, .inr ⟨nq + 8, nq + 12, rfl, rfl, (updH_ne (by first | omega | (dsimp only; omega))).trans ((updH_ne (by first | omega | (dsimp only; omega))).trans ((updH_ne (by first | omega | (dsimp only; omega))).trans ((updH_ne (by first | omega | (dsimp only; omega))).trans (updH_at)))), (updH_ne (by first | omega | (dsimp only; omega))).trans (updH_at), by omega, by omega, by omega⟩, fun id h1 h2 => (updH_ne (by first | omega | (dsimp only; omega))).trans ((updH_ne (by first | omega | (dsimp only; omega))).trans ((updH_ne (by first | omega | (dsimp only; omega))).trans ((updH_ne (by first | omega | (dsimp only; omega))).trans ((updH_ne (by first | omega | (dsimp only; omega))).trans ((updH_ne (by first | omega | (dsimp only; omega))).trans ((updH_ne (by first | omega | (dsimp only; omega))).trans ((updH_ne (by first | omega | (dsimp only; omega))).trans (q7 id h1 h2))))))))⟩, .slots ?_⟩
          simp +contextual only [go_sem, ↓reduceIte, Nat.reduceEqDiff, Nat.reduceAdd, Nat.reduceLeDiff, Nat.reduceLT, reduceCtorEq]
        · have ll : lid < np := g7
          have ho : oid < nq := by
            rcases Nat.lt_or_ge oid nq with h | h
            · exact h
            · have := q4 (oid - nq); rw [show nq + (oid - nq) = oid by omega, q8] at this; cases this
          have hmi : mid < nq := by
            rcases Nat.lt_or_ge mid nq with h | h
            · exact h
            · have := q4 (mid - nq); rw [show nq + (mid - nq) = mid by omega, q9] at this; cases this
          have hpl : pre.length = i := by
            have := drop_pre hd q0
            omega
          have f1 : (pre.length + 1) * 80 ≤ 68719476736 := by omega
          have f2 : pre.length + 1 ≤ 4294967296 := by omega
          have f3 : (pre.length + 1) * 8 ≤ 68719476736 := by omega
          have z0 : (np = nq) = False := by simp; omega
          have z1 : (nq = np) = False := by simp; omega
          have z2 : ∀ k, (np = nq + k) = False := fun k => by simp; omega
          have z3 : ∀ k, (nq + k = np) = False := fun k => by simp; omega
          have z4 : (lid = nq) = False := by simp; omega
          have z5 : (nq = lid) = False := by simp; omega
          have z6 : ∀ k, (lid = nq + k) = False := fun k => by simp; omega
          have z7 : ∀ k, (nq + k = lid) = False := fun k => by simp; omega
          have z8 : (oid = nq) = False := by simp; omega
          have z9 : (nq = oid) = False := by simp; omega
          have z10 : ∀ k, (oid = nq + k) = False := fun k => by simp; omega
          have z11 : ∀ k, (nq + k = oid) = False := fun k => by simp; omega
          have z12 : (mid = nq) = False := by simp; omega
          have z13 : (nq = mid) = False := by simp; omega
          have z14 : ∀ k, (mid = nq + k) = False := fun k => by simp; omega
          have z15 : ∀ k, (nq + k = mid) = False := fun k => by simp; omega
          have z16 : (np = lid) = False := by simp; omega
          have z17 : (np = oid) = False := by simp; omega
          have z18 : (np = mid) = False := by simp; omega
          have z19 : (lid = np) = False := by simp; omega
          have z20 : (lid = oid) = False := by simp; omega
          have z21 : (lid = mid) = False := by simp; omega
          have z22 : (oid = np) = False := by simp; omega
          have z23 : (oid = lid) = False := by simp; omega
          have z24 : (oid = mid) = False := by simp; omega
          have z25 : (mid = np) = False := by simp; omega
          have z26 : (mid = lid) = False := by simp; omega
          have z27 : (mid = oid) = False := by simp; omega
          simp +contextual only [go_sem, ↓reduceIte, Nat.reduceEqDiff, Nat.reduceAdd, Nat.reduceLeDiff, Nat.reduceLT, reduceCtorEq, k58, q1, q2, q3, hnq, q4, q8, q9, f1, f2, f3, z0, z1, z2, z3, z4, z5, z6, z7, z8, z9, z10, z11, z12, z13, z14, z15, z16, z17, z18, z19, z20, z21, z22, z23, z24, z25, z26, z27, lt_dec hlt', hlz, hx, hw, h55, hxd, okE, List.length_map, List.getElem?_map, Option.map_some, Int.natCast_nonneg, Int.toNat_natCast, Nat.zero_add, Nat.add_zero, List.drop_zero, Nat.add_eq_left, Nat.left_eq_add, Nat.add_assoc, true_and, and_true]
          refine ⟨by simp [apartI, apartAll, clash, List.range, List.range.loop, z0, z1, z2, z3, z4, z5, z6, z7, z8, z9, z10, z11, z12, z13, z14, z15, z16, z17, z18, z19, z20, z21, z22, z23, z24, z25, z26, z27]; decide, ⟨pre ++ [x], .own (nq + 8) 0 (pre.length + 1), .own (nq + 12) 0 (pre.length + 1), nq + 14, updH (updH (updH (updH (updH (updH (updH (updH (updH (updH H' nq (.live 7 [zeroMC] true)) nq (.live 7 [Cod.enc x] true)) (nq + 7) (.live 6 [Cod.enc x.object] true)) oid .dead) (nq + 8) (.live 6 (pre.map (fun x => Cod.enc x.object) ++ [Cod.enc x.object]) true)) np (.live 4 [.agg [.sc (.string party), .own (nq + 8) 0 (pre.length + 1), .own mid 0 pre.length, .sc (.int .i64 next)]] true)) (nq + 11) (.live 1 [Cod.enc x.mark] true)) mid .dead) (nq + 12) (.live 1 (pre.map (fun x => Cod.enc x.mark) ++ [Cod.enc x.mark]) true)) np (.live 4 [.agg [.sc (.string party), .own (nq + 8) 0 (pre.length + 1), .own (nq + 12) 0 (pre.length + 1), .sc (.int .i64 next)]] true)⟩, ⟨by rw [q0]; simp, updH_at, (updH_ne (by first | omega | (dsimp only; omega))).trans ((updH_ne (by first | omega | (dsimp only; omega))).trans ((updH_ne (by first | omega | (dsimp only; omega))).trans ((updH_ne (by first | omega | (dsimp only; omega))).trans ((updH_ne (by first | omega | (dsimp only; omega))).trans ((updH_ne (by first | omega | (dsimp only; omega))).trans ((updH_ne (by first | omega | (dsimp only; omega))).trans ((updH_ne (by first | omega | (dsimp only; omega))).trans ((updH_ne (by first | omega | (dsimp only; omega))).trans ((updH_ne (by first | omega | (dsimp only; omega))).trans (q2)))))))))), (updH_ne (by first | omega | (dsimp only; omega))).trans ((updH_ne (by first | omega | (dsimp only; omega))).trans ((updH_ne (by first | omega | (dsimp only; omega))).trans ((updH_ne (by first | omega | (dsimp only; omega))).trans ((updH_ne (by first | omega | (dsimp only; omega))).trans ((updH_ne (by first | omega | (dsimp only; omega))).trans ((updH_ne (by first | omega | (dsimp only; omega))).trans ((updH_ne (by first | omega | (dsimp only; omega))).trans ((updH_ne (by first | omega | (dsimp only; omega))).trans ((updH_ne (by first | omega | (dsimp only; omega))).trans (q3)))))))))), fun k => (updH_ne (by first | omega | (dsimp only; omega))).trans ((updH_ne (by first | omega | (dsimp only; omega))).trans ((updH_ne (by first | omega | (dsimp only; omega))).trans ((updH_ne (by first | omega | (dsimp only; omega))).trans ((updH_ne (by first | omega | (dsimp only; omega))).trans ((updH_ne (by first | omega | (dsimp only; omega))).trans ((updH_ne (by first | omega | (dsimp only; omega))).trans ((updH_ne (by first | omega | (dsimp only; omega))).trans ((updH_ne (by first | omega | (dsimp only; omega))).trans ((updH_ne (by first | omega | (dsimp only; omega))).trans ((congrArg H' (Nat.add_assoc _ _ _)).trans (q4 _))))))))))), by dsimp only; omega, .inr ⟨nq + 8, nq + 12, by simp, by simp, (updH_ne (by first | omega | (dsimp only; omega))).trans ((updH_ne (by first | omega | (dsimp only; omega))).trans ((updH_ne (by first | omega | (dsimp only; omega))).trans ((updH_ne (by first | omega | (dsimp only; omega))).trans ((updH_ne (by first | omega | (dsimp only; omega))).trans (updH_at.trans (by simp)))))), (updH_ne (by first | omega | (dsimp only; omega))).trans (updH_at.trans (by simp)), by omega, by omega, by omega⟩, fun id h1 h2 => (updH_ne (by first | omega | (dsimp only; omega))).trans ((updH_ne (by first | omega | (dsimp only; omega))).trans ((updH_ne (by first | omega | (dsimp only; omega))).trans ((updH_ne (by first | omega | (dsimp only; omega))).trans ((updH_ne (by first | omega | (dsimp only; omega))).trans ((updH_ne (by first | omega | (dsimp only; omega))).trans ((updH_ne (by first | omega | (dsimp only; omega))).trans ((updH_ne (by first | omega | (dsimp only; omega))).trans ((updH_ne (by first | omega | (dsimp only; omega))).trans ((updH_ne (by first | omega | (dsimp only; omega))).trans (q7 id h1 h2))))))))))⟩, .slots ?_⟩
          simp +contextual only [go_sem, ↓reduceIte, Nat.reduceEqDiff, Nat.reduceAdd, Nat.reduceLeDiff, Nat.reduceLT, reduceCtorEq]
    · have hjm : j < m.length := g12 j hj
      have hkj : (keysM m)[j]? = some (KeyC.kval m[j].1) := by simp [keysM, hjm]
      have hvj : (valsM m)[j]? = some (Cod.enc m[j].2) := by simp [valsM, hjm]
      have a1 : (n + 2 = r) = False := nrk 2
      have a2 : (n + 2 = n) = False := by simp
      have a3 : (lid = n + 2) = False := eq_false g9
      have a4 : (n + 2 = lid) = False := eq_false (Ne.symm g9)
      have a5 : (n + 2 = np) = False := by simp; omega
      have a6 : (np = n + 2) = False := by simp; omega
      have a7 : (lid = np) = False := by simp; omega
      have a8 : (np = lid) = False := by simp; omega
      have a9 : ∀ k, (np + k = n + 2) = False := fun k => by simp; omega
      have a10 : ∀ k, (lid = np + k) = False := fun k => by simp; omega
      have b1 : (acc.length + 1) * 88 ≤ 68719476736 := by omega
      have b2 : acc.length + 1 ≤ 4294967296 := by omega
      simp +contextual only [go_sem, ↓reduceIte, Nat.reduceEqDiff, Nat.reduceAdd, Nat.reduceLeDiff, Nat.reduceLT, reduceCtorEq, k58, g1, g2, g3, g4, g5, hnp, Nat.add_eq_left, Nat.left_eq_add, Nat.add_assoc]
      refine stepI_entryM rfl (by simp only [updH, if_true]; rfl) hkj hvj (entry_none rfl) ?_
      simp +contextual only [go_sem, ↓reduceIte, Nat.reduceEqDiff, Nat.reduceAdd, Nat.reduceLeDiff, Nat.reduceLT, reduceCtorEq, k58, g1, g2, g3, g4, g5, hnp, a3, a4, a5, a6, a7, a8, a9, a10, b1, b2, okE, List.length_map, Nat.zero_add, List.drop_zero, Nat.add_eq_left, Nat.left_eq_add, Nat.add_assoc, true_and, and_true]
      have hpl := perm_left g11 hj
      have hvd : valD m j = some m[j].2 := by simp [valD, hjm]
      refine ⟨⟨left.filter (fun x => decide (x ≠ j)), some j, acc ++ [m[j].2], np + 3, np + 4, updH (updH (updH (updH (updH (updH H (n + 2) (.ext (.miter (keysM m) (valsM m) (left.filter (fun x => decide (x ≠ j))) (some j)))) np (.live 7 [zeroMC] true)) np (.live 7 [Cod.enc m[j].2] true)) (np + 2) (.live 7 [Cod.enc m[j].2] true)) lid .dead) (np + 3) (.live 7 (acc.map Cod.enc ++ [Cod.enc m[j].2]) true)⟩, ?_, ⟨(updH_ne (by first | omega | (dsimp only; omega))).trans ((updH_ne (by first | omega | (dsimp only; omega))).trans ((updH_ne (by first | omega | (dsimp only; omega))).trans ((updH_ne (by first | omega | (dsimp only; omega))).trans ((updH_ne (by first | omega | (dsimp only; omega))).trans ((updH_ne (by first | omega | (dsimp only; omega))).trans (g1)))))), (updH_ne (by first | omega | (dsimp only; omega))).trans ((updH_ne (by first | omega | (dsimp only; omega))).trans ((updH_ne (by first | omega | (dsimp only; omega))).trans ((updH_ne (by first | omega | (dsimp only; omega))).trans ((updH_ne (by first | omega | (dsimp only; omega))).trans ((updH_ne (by first | omega | (dsimp only; omega))).trans (g2)))))), (updH_ne (by first | omega | (dsimp only; omega))).trans ((updH_ne (by first | omega | (dsimp only; omega))).trans ((updH_ne (by first | omega | (dsimp only; omega))).trans ((updH_ne (by first | omega | (dsimp only; omega))).trans ((updH_ne (by first | omega | (dsimp only; omega))).trans (updH_at))))), updH_at.trans (by rw [List.map_append]; rfl), fun k => (updH_ne (by first | omega | (dsimp only; omega))).trans ((updH_ne (by first | omega | (dsimp only; omega))).trans ((updH_ne (by first | omega | (dsimp only; omega))).trans ((updH_ne (by first | omega | (dsimp only; omega))).trans ((updH_ne (by first | omega | (dsimp only; omega))).trans ((updH_ne (by first | omega | (dsimp only; omega))).trans ((congrArg H (Nat.add_assoc _ _ _)).trans (g5 _))))))), by dsimp only; omega, by dsimp only; omega, by dsimp only; omega, by dsimp only; omega, by dsimp only; omega, g11.sublist List.filter_sublist, fun i hi => g12 i (List.mem_filter.1 hi).1, ?_, fun id h1 h2 => (updH_ne (by first | omega | (dsimp only; omega))).trans ((updH_ne (by first | omega | (dsimp only; omega))).trans ((updH_ne (by first | omega | (dsimp only; omega))).trans ((updH_ne (by first | omega | (dsimp only; omega))).trans ((updH_ne (by first | omega | (dsimp only; omega))).trans ((updH_ne (by first | omega | (dsimp only; omega))).trans (g14 id h1 h2)))))), by dsimp only; omega⟩, .slots ?_⟩
      · have := hpl.length_eq
        rw [List.length_cons] at this
        dsimp only
        omega
      · refine List.Perm.trans ?_ g13
        rw [List.append_assoc]
        refine List.Perm.append_left _ ?_
        have := (hpl.filterMap (valD m)).symm
        rw [List.filterMap_cons_some hvd] at this
        exact this
      · simp +contextual only [go_sem, ↓reduceIte, Nat.reduceEqDiff, Nat.reduceAdd, Nat.reduceLeDiff, Nat.reduceLT, reduceCtorEq, List.length_append, List.length_cons, List.length_nil, Nat.zero_add]
end Go.Proofs.Ytalhbhbkdfmhgaa
