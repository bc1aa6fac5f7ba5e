/- A shelf: laid from a directory, put to, closed. -/
import Derived.Test.YtalhbhbkdfmhgaaDir45c
namespace Go.Proofs.Ytalhbhbkdfmhgaa
set_option linter.all false
open Go.Idl
set_option maxHeartbeats 4000000
set_option maxRecDepth 100000
theorem agSh : agOf Try.prog 119 = some (some 2) := by kernel_rfl
attribute [local go_sem] agObj agDir agOK agSh Try.underlying3 Try.underlying5 Try.underlying9
theorem updH_ge {H : Heap} {n k id : Nat} {x : Idl.Obj} (h : id < n) (hk : n ≤ k) : updH H k x id = H id := by unfold updH; rw [if_neg (by omega)]
theorem updH_nk {H : Heap} {n k id : Nat} {x : Idl.Obj} (h : id < n) : updH H (n + k) x id = H id := updH_ge h (by omega)
theorem updH_n0 {H : Heap} {n id : Nat} {x : Idl.Obj} (h : id < n) : updH H n x id = H id := updH_ge h (Nat.le_refl n)
theorem low_marksM {κ : Type} (n : Nat) (m : List (κ × MarkD)) : (valsM m).all (V.low n) = true := by
  simp only [valsM, List.all_map, List.all_eq_true]
  intro x _
  rfl
def putO (m : List (OKeyD × MarkD)) (p : ObjD × Int) : List (OKeyD × MarkD) := putM m (keyO p.1) ⟨p.1, p.2⟩
def openM (d : DirD) : List (OKeyD × MarkD) := (d.objects.zip d.marks).foldl putO []
theorem lowA_mono {m m' : Nat} (hm : m ≤ m') {v : V} (h : v.lowA m = true) : v.lowA m' = true := by
  cases v <;> simp [V.lowA] at h ⊢ <;> omega
theorem lowC_mono {m m' : Nat} (hm : m ≤ m') {v : V} (h : v.lowC m = true) : v.lowC m' = true := by
  cases v with
  | fn f xs ys =>
    simp only [V.lowC, Bool.and_eq_true, List.all_eq_true] at h ⊢
    exact ⟨fun x hx => lowA_mono hm (h.1 x hx), fun x hx => lowA_mono hm (h.2 x hx)⟩
  | _ => simp only [V.lowC] at h ⊢; exact lowA_mono hm h
theorem low_mono {m m' : Nat} (hm : m ≤ m') {v : V} (h : v.low m = true) : v.low m' = true := by
  cases v with
  | agg cs =>
    simp only [V.low, List.all_eq_true] at h ⊢
    exact fun x hx => lowC_mono hm (h x hx)
  | _ => simp only [V.low] at h ⊢; exact lowC_mono hm h
theorem olow_mono {m m' : Nat} (hm : m ≤ m') {x : Idl.Obj} (h : x.low m = true) : x.low m' = true := by
  cases x with
  | live sz es mu =>
    simp only [Obj.low, List.all_eq_true] at h ⊢
    exact fun x hx => low_mono hm (h x hx)
  | ext x =>
    cases x with
    | map ks vs =>
      simp only [Obj.low, Ext.low, List.all_eq_true] at h ⊢
      exact fun x hx => low_mono hm (h x hx)
    | _ => rfl
  | _ => rfl
theorem lowCt_mono {C : Ctx} {m m' : Nat} (h : LowC C m) (hm : m ≤ m') : LowC C m' := fun fr hf t => low_mono hm (h fr hf t)
theorem leX {C : Ctx} {τ : Nat → V} {H H0 : Heap} {n0 n m : Nat} {L : List (Nat × V)} {O : List Idl.Obj} (hm : m = n + O.length) (hbase : ∀ id, id < n → H id = H0 id ∧ (H0 id).low n = true)
    (h : holdsM τ m L ∧ holdsO H m n O) (hlow : LowC C n) : LeF C ⟨τ, H, n0⟩ ⟨slotsL L, extH H0 n O, m⟩ := by
  subst hm
  rintro a w ⟨γ, I, hS⟩
  refine ⟨_, I, hS.cut (m := n + O.length) (lowCt_mono hlow (by omega)) (slotsM_of h.1) (fun id hid => ?_) fun id hid => ?_⟩
  · by_cases hlt : id < n
    · obtain ⟨e1, e2⟩ := hbase id hlt
      exact ⟨by show extH H0 n O id = H id; rw [extH_lt hlt, e1], by rw [show (SF.mk τ H n0).H id = H id from rfl, e1]; exact olow_mono (by omega) e2⟩
    · have := objs_of h.2 (id - n) (by omega)
      rw [show n + (id - n) = id by omega] at this
      exact ⟨by show extH H0 n O id = H id; unfold extH; rw [if_neg hlt]; exact this.1, this.2⟩
  · show extH H0 n O id = .unborn
    unfold extH
    rw [if_neg (by omega)]
    exact objsL_out (by omega)
theorem updH_ext {H0 : Heap} {n k : Nat} {O : List Idl.Obj} {x : Idl.Obj} (hk : k < O.length) : updH (extH H0 n O) (n + k) x = extH H0 n (O.set k x) := by
  funext id
  unfold updH extH
  by_cases h : id < n
  · rw [if_neg (by omega), if_pos h, if_pos h]
  · rw [if_neg h, if_neg h]
    have hset : ∀ (O : List Idl.Obj) (r j : Nat) (x : Idl.Obj), r < O.length → objsL (O.set r x) j = if j = r then x else objsL O j := by
      intro O
      induction O with
      | nil => intro r j x h; simp at h
      | cons y O ih =>
        intro r j x h
        cases r with
        | zero => cases j <;> simp [objsL]
        | succ r =>
          cases j with
          | zero => simp [objsL]
          | succ j => simp only [List.set_cons_succ, objsL]; rw [ih r j x (by simpa using h)]; simp
    rw [hset O k (id - n) x hk]
    by_cases e : id = n + k
    · subst e; rw [if_pos rfl, if_pos (by omega)]
    · rw [if_neg e, if_neg (by omega)]
abbrev shX (n : Nat) (next : Int) : V := .agg [.mapr n, .sc (.int .i64 next)]
def opO (n : Nat) (d : DirD) : List Idl.Obj := [.live 4 [Cod.enc d] true, .live 2 [shX (n + 5) d.next] true, .unborn, .unborn, .unborn, .ext (.map (keysM (openM d)) (valsM (openM d))), .unborn, .unborn, .unborn, .live 2 [shX (n + 5) d.next] true]
theorem ct56 {Φ : Specs} (hg : Idl.Good Try.prog Φ) (h52 : Φ 52 = some SKeyO) {C : Ctx} {H0 : Heap} {n : Nat} {d : DirD} {τ : Nat → V} {K : V → SF → Prop}
    (hH0 : ∀ id, id < n → (H0 id).low n = true) (hun : ∀ k, H0 (n + k) = .unborn)
    (hl : d.objects.length ≤ 100000) (hm : d.marks.length = d.objects.length) (hlow : LowC C n) (hτ : LowT n τ)
    (hk : ∀ τ', K (shX (n + 5) d.next) ⟨τ', extH H0 n (opO n d), n + 11⟩) :
    CallT Try.prog C 56 [Cod.enc d] ⟨τ, H0, n⟩ K := by
  refine CallT.of_walk hg k56 ic56 (by simp) fun C' hlow' => ?_
  have hl2 : LowC C' n := hlow' n hτ hlow
  have hu0 : H0 n = .unborn := hun 0
  simp +contextual only [go_sem, ↓reduceIte, Nat.reduceEqDiff, Nat.reduceAdd, Nat.reduceLeDiff, Nat.reduceLT, reduceCtorEq, c56, k56, List.length_map, hun, hu0, Nat.add_eq_left, Nat.left_eq_add, Nat.add_assoc, true_and, and_true]
  have hz : (d.objects.zip d.marks).length = d.objects.length := by rw [List.length_zip]; omega
  refine ⟨by simp [apartI, apartAll, clash, List.range, List.range.loop]; decide, ?_⟩
  refine TriI.loopL hg k56 (d.objects.zip d.marks) (fun i (m : List (OKeyD × MarkD)) => ⟨slotsL [(1, .ref n 0 0), (2, .ref (n + 1) 0 0), (3, .ref (n + 9) 0 0), (14, Cod.enc d.objects), (15, .sc (.int .i64 d.objects.length)), (16, .sc (.int .i64 i))],
      extH H0 n [.live 4 [Cod.enc d] true, .live 2 [.agg [.sc (.map none), .sc (.int .i64 0)]] true, .unborn, .unborn, .unborn, .ext (.map (keysM m) (valsM m)), .unborn, .unborn, .unborn, .live 2 [shX (n + 5) d.next] true], n + 10⟩)
    (fun xs m => xs.foldl putO m = openM d) [] (leX rfl (fun id hid => ?_) ?_ hl2) rfl ?_ ?_
  · simp only [updH_nk hid, updH_n0 hid]
    exact ⟨trivial, hH0 id hid⟩
  · simp +contextual only [go_sem, ↓reduceIte, Nat.reduceEqDiff, Nat.reduceAdd, Nat.reduceLeDiff, Nat.reduceLT, reduceCtorEq, List.length_map, Nat.add_eq_left, Nat.left_eq_add, Nat.add_assoc, Nat.add_lt_add_iff_left, Nat.lt_add_right_iff_pos, Nat.add_left_cancel_iff, hun, keysM_nil, valsM_nil, Nat.zero_lt_succ]
    trivial
  · intro m hinv
    have hinv' : m = openM d := hinv
    subst hinv'
    rw [hz]
    simp +contextual only [go_sem, ↓reduceIte, Nat.reduceEqDiff, Nat.reduceAdd, Nat.reduceLeDiff, Nat.reduceLT, reduceCtorEq, k56, Int.lt_irrefl, decide_false, Nat.add_eq_left, Nat.left_eq_add, Nat.add_assoc]
    rw [updH_ext (by simp)]
    exact hk _
  · intro i m x xs hd hlt hx hinv
    rw [hz] at hlt
    have hw := wrap_nat hlt (by omega)
    obtain ⟨hx1, hx2⟩ := List.getElem?_zip_eq_some.1 hx
    have hlm : i < d.marks.length := by omega
    have hge : decide ((i : Int) ≥ (d.marks.length : Int)) = false := by simp; omega
    have hp : putF' (n + 5) (.agg #[.int .i64 (keyO x.1).kind, .string (keyO x.1).owner, .string (keyO x.1).id]) (.agg [.sc (.int .i64 x.1.kind), .sc (.string x.1.id), .sc (.string x.1.owner), .sc (.int .i64 x.1.version), .sc (.bool x.1.deleted), .slice 1 (x.1.data.map Cod.enc), .sc (.int .i64 x.2)]) (keysM m) (valsM m) (some (fidx m (keyO x.1))) =
      some (.any, [(n + 5, .ext (.map (keysM (putO m x)) (valsM (putO m x))))]) := putF_typed _ _ _ m (keyO x.1) ⟨x.1, x.2⟩ rfl rfl
    simp +contextual only [go_sem, ↓reduceIte, Nat.reduceEqDiff, Nat.reduceAdd, Nat.reduceLeDiff, Nat.reduceLT, reduceCtorEq, k56, lt_dec hlt, hge, hx1, hx2, hw, h52, hp, List.length_map, List.getElem?_map, Option.map_some, Int.natCast_nonneg, Int.toNat_natCast, Nat.add_eq_left, Nat.left_eq_add, Nat.add_assoc]
    refine ⟨by simp [apartI, apartAll, clash, List.range, List.range.loop], putO m x, hinv, leX rfl (fun id hid => ?_) ?_ hl2⟩
    · simp only [updH_nk hid, updH_n0 hid, extH_lt hid]
      exact ⟨trivial, hH0 id hid⟩
    · simp +contextual only [go_sem, ↓reduceIte, Nat.reduceEqDiff, Nat.reduceAdd, Nat.reduceLeDiff, Nat.reduceLT, reduceCtorEq, List.length_map, Nat.add_eq_left, Nat.left_eq_add, Nat.add_assoc, Nat.add_lt_add_iff_left, Nat.lt_add_right_iff_pos, Nat.add_left_cancel_iff, Nat.zero_lt_succ, low_marksM]
theorem ct57 {Φ : Specs} (hg : Idl.Good Try.prog Φ) (h52 : Φ 52 = some SKeyO) {C : Ctx} {H0 : Heap} {n r mp : Nat} {o : ObjD} {next : Int} {m : List (OKeyD × MarkD)} {τ : Nat → V} {K : V → SF → Prop}
    (hr : r < n) (hmp : mp < n) (hne : r ≠ mp) (hR : H0 r = .live 2 [shX mp next] true) (hM : H0 mp = .ext (.map (keysM m) (valsM m))) (hun : ∀ k, H0 (n + k) = .unborn)
    (hk : ∀ τ', K (.tup []) ⟨τ', updH (updH (updH H0 n (.live 6 [Cod.enc o] true)) mp (.ext (.map (keysM (putO m (o, next))) (valsM (putO m (o, next)))))) r (.live 2 [shX mp (IntKind.i64.wrap (next + 1))] true), n + 15⟩) :
    CallT Try.prog C 57 [.ref r 0 0, Cod.enc o] ⟨τ, H0, n⟩ K := by
  refine CallT.of_walk hg k57 ic57 (by simp) fun C' hlow' => ?_
  have hu0 : H0 n = .unborn := hun 0
  have rn : (r = n) = False := by simp; omega
  have mn : (mp = n) = False := by simp; omega
  have nr : (n = r) = False := by simp; omega
  have nm : (n = mp) = False := by simp; omega
  have e1 : (r = mp) = False := eq_false hne
  have e2 : (mp = r) = False := eq_false (Ne.symm hne)
  have hp : putF' mp (.agg #[.int .i64 (keyO o).kind, .string (keyO o).owner, .string (keyO o).id]) (.agg [.sc (.int .i64 o.kind), .sc (.string o.id), .sc (.string o.owner), .sc (.int .i64 o.version), .sc (.bool o.deleted), .slice 1 (o.data.map Cod.enc), .sc (.int .i64 next)]) (keysM m) (valsM m) (some (fidx m (keyO o))) =
      some (.any, [(mp, .ext (.map (keysM (putO m (o, next))) (valsM (putO m (o, next)))))]) := putF_typed _ _ _ m (keyO o) ⟨o, next⟩ rfl rfl
  simp +contextual only [go_sem, ↓reduceIte, Nat.reduceEqDiff, Nat.reduceAdd, Nat.reduceLeDiff, Nat.reduceLT, reduceCtorEq, c57, k57, hun, hu0, hR, hM, rn, mn, nr, nm, e1, e2, hp, h52, Nat.add_eq_left, Nat.left_eq_add, Nat.add_assoc, true_and, and_true]
  exact ⟨by simp [apartI, apartAll, clash, List.range, List.range.loop, rn, mn, nr, nm, e1, e2], hk _⟩
end Go.Proofs.Ytalhbhbkdfmhgaa
