/- Records: the events of a transaction in order. -/
import Derived.Test.YtoccifhckpjfaaaStabE
import Derived.Test.YtoccifhckpjfaaaMerge20
import Derived.Test.YtoccifhckpjfaaaSame36
namespace Go.Proofs.Ytoccifhckpjfaaa
set_option linter.all false
open Go.Idl
set_option maxHeartbeats 8000000
set_option maxRecDepth 100000
attribute [local go_sem] Try.underlying3 Try.underlying5 Try.underlying9 Try.underlying4
theorem callT_con {P : Program} {C : Ctx} {f : FuncId} {F : List V → Option V} (he : Idl.enters P f = true) (hc : Contract P f F) {vs : List V} {s : SF} {r : V} (hF : F vs = some r) (hf : vs.all V.isF = true) {K : V → SF → Prop} (hK : K r s) : CallT P C f vs s K := by
  refine ⟨he, fun tm w γ I args hS hl hrep => ?_⟩
  rw [List.all_eq_true] at hf
  refine (hc I w args vs r hl (fun j x u hx hu => (hrep j x u hx hu).frozenF (hf x (List.mem_of_getElem? hx))) hS.immS (Laid.keep hS.below.below C.laid) hF).mono ?_
  rintro e w' ⟨u, rfl, hb, hr⟩
  refine ⟨u, r, s, rfl, hK, γ, _, hS.grow hb (I' := fun g x => I g x ∨ (w.heap.size ≤ g ∧ g < w'.heap.size)) (fun _ _ h => .inl h) fun _ _ h => h, hr.mono (Pres.refl _ _) (fun _ _ h => h) (by simp [noPlaces])⟩
theorem ft_two {α β γ : Type} [Cod α] [Cod β] [CodR γ] (g : α × β × Unit → Option γ) (a : α) (b : β) : FT g [Cod.enc a, Cod.enc b] = FTc (g (a, b, ())) := by
  simp only [FT, decA_cons, decA_unit, Cod.dec_enc, dec2, FTb]
def badE : List EvD → Int
  | [] => 0
  | x :: l => bif evS x != 0 then evS x else badE l
def keyEq (a b : EvD) : Bool := decide (a.station = b.station) && decide (a.txn = b.txn)
def dedE : List EvD → Option EvD → List EvD → Option (List EvD)
  | out, _, [] => some out
  | out, none, x :: l => dedE (out ++ [x]) (some x) l
  | out, some y, x :: l => bif y.seq != x.seq then dedE (out ++ [x]) (some x) l else bif sameE y x then dedE out (some y) l else none
def dfE : EvD := ⟨⟨#[]⟩, ⟨#[]⟩, 0, 0, 0, 0, ⟨#[]⟩, false, 0, []⟩
def atE (l : List EvD) (x : Nat) : EvD := (l[x]?).getD dfE
def leT (l : List EvD) (x y : Nat) : Bool := decide ((atE l x).seq < (atE l y).seq) || (decide ((atE l x).seq = (atE l y).seq) && decide (x ≤ y))
def sortS (l : List EvD) : List EvD := ((List.range l.length).mergeSort (leT l)).map (atE l)
def orderS (l : List EvD) : List EvD × Int := bif badE l != 0 then ([], badE l) else bif l.all (fun x => (l.head?.map (keyEq x)).getD true) then (match dedE [] none (sortS l) with
  | some es => (es, 0)
  | none => ([], 23)) else ([], 23)
theorem leT_iff (l : List EvD) (x y : Nat) : leT l x y = true ↔ (atE l x).seq < (atE l y).seq ∨ ((atE l x).seq = (atE l y).seq ∧ x ≤ y) := by simp [leT]
theorem leT_trans (l : List EvD) (x y z : Nat) (h1 : leT l x y = true) (h2 : leT l y z = true) : leT l x z = true := by
  rw [leT_iff] at *; omega
theorem leT_total (l : List EvD) (x y : Nat) : (leT l x y || leT l y x) = true := by
  rw [Bool.or_eq_true, leT_iff, leT_iff]; omega
theorem sortS_perm (l : List EvD) : (sortS l).Perm l := by
  have h1 : ((List.range l.length).mergeSort (leT l)).Perm (List.range l.length) := List.mergeSort_perm _ _
  refine (h1.map (atE l)).trans ?_
  have : (List.range l.length).map (atE l) = l := by
    apply List.ext_getElem?
    intro i
    rw [List.getElem?_map]
    by_cases h : i < l.length
    · simp [h, atE]
    · simp [h]
  rw [this]
theorem sortS_sorted (l : List EvD) : (sortS l).Pairwise fun a b => a.seq ≤ b.seq := by
  unfold sortS
  rw [List.pairwise_map]
  refine (List.pairwise_mergeSort (leT_trans l) (leT_total l) _).imp ?_
  intro x y h
  rw [leT_iff] at h; omega
theorem sortS_tags {l : List EvD} {T : List Nat} (hp : T.Perm (List.range l.length)) (hs : T.Pairwise fun x y => (atE l x).seq - (atE l y).seq < 0 ∨ (¬ (atE l y).seq - (atE l x).seq < 0 ∧ x < y)) : T.map (atE l) = sortS l := by
  unfold sortS
  congr 1
  refine List.Perm.eq_of_pairwise (le := fun x y => leT l x y = true) ?_ ?_ (List.pairwise_mergeSort (leT_trans l) (leT_total l) _) (hp.trans (List.mergeSort_perm _ _).symm)
  · intro x y _ _ h1 h2
    rw [leT_iff] at h1 h2; omega
  · refine hs.imp ?_
    intro x y h
    rw [leT_iff]; omega
theorem badE_zero {l : List EvD} (h : badE l = 0) : ∀ x, x ∈ l → evS x = 0 := by
  induction l with
  | nil => intro x hx; simp at hx
  | cons y l ih =>
    intro x hx
    rw [badE] at h
    cases hy : (evS y != 0) with
    | true => rw [hy, cond_true] at h; simp [h] at hy
    | false =>
      rw [hy, cond_false] at h
      rcases List.mem_cons.1 hx with rfl | hx
      · simpa using hy
      · exact ih h x hx
theorem evS_ok {e : EvD} (h : evS e = 0) : 0 ≤ e.seq ∧ e.seq ≤ 2147483647 ∧ e.rds.length ≤ 16 := by
  unfold evS at h
  cases h1 : (!okName e.station || !okName e.txn) with
  | true => rw [h1, cond_true] at h; cases h
  | false =>
    rw [h1, cond_false] at h
    cases h2 : (!numsS e) with
    | true => rw [h2, cond_true] at h; cases h
    | false =>
      rw [h2, cond_false] at h
      have h3 : numsS e = true := by simpa using h2
      simp only [numsS, inR, Bool.and_eq_true, decide_eq_true_eq] at h3
      cases h4 : (kindS e != 0) with
      | true => rw [h4, cond_true] at h; simp [h] at h4
      | false =>
        rw [h4, cond_false] at h
        unfold rdsS at h
        cases h5 : decide (e.rds.length > 16) with
        | true => rw [h5, cond_true] at h; cases h
        | false => simp at h5; omega
theorem con36 {Φ : Specs} (hg : Idl.Good Try.prog Φ) : Contract Try.prog 36 (FT fun (t : EvD × EvD × Unit) => if (0 ≤ t.1.seq ∧ t.1.seq ≤ 2147483647) ∧ 0 ≤ t.2.1.seq ∧ t.2.1.seq ≤ 2147483647 then some (t.1.seq - t.2.1.seq) else none) := by
  refine conT hg k36 ic36 (by decide) fun C t r h => ?_
  obtain ⟨a, b, u⟩ := t
  dsimp only at h
  split at h
  · rename_i hl
    cases h
    have hw : IntKind.i64.wrap (a.seq - b.seq) = a.seq - b.seq := by rw [IntKind.wrap_i64]; omega
    simp +contextual only [go_sem, ↓reduceIte, Nat.reduceEqDiff, Nat.reduceAdd, Nat.reduceLeDiff, Nat.reduceLT, reduceCtorEq, c36, k36, hw]
  · cases h
def cellsE (e : EvD) : List V := [Cod.enc e.station, Cod.enc e.txn, Cod.enc e.conn, Cod.enc e.seq, Cod.enc e.kind, Cod.enc e.time, Cod.enc e.token, Cod.enc e.offline, Cod.enc e.reason, Cod.enc e.rds]
theorem elsE (l : List EvD) : Els 10 fun x => cellsE (atE l x) := ⟨fun _ => rfl, fun _ => rfl, fun _ => rfl⟩
theorem cmpE {Φ : Specs} (hg : Idl.Good Try.prog Φ) {l : List EvD} (h : ∀ x, x ∈ l → evS x = 0) : CmpT Try.prog 36 (fun x => cellsE (atE l x)) fun x y => (atE l x).seq - (atE l y).seq := by
  have hs : ∀ x, 0 ≤ (atE l x).seq ∧ (atE l x).seq ≤ 2147483647 := fun x => by
    unfold atE
    cases hx : l[x]? with
    | none => exact ⟨Int.le_refl _, by decide⟩
    | some y => exact ⟨(evS_ok (h y (List.mem_of_getElem? hx))).1, (evS_ok (h y (List.mem_of_getElem? hx))).2.1⟩
  intro x y C s K hK
  refine callT_con (facts_enters ic36) (con36 hg) (r := .sc (.int .i64 ((atE l x).seq - (atE l y).seq))) ((ft_two _ (atE l x) (atE l y)).trans ?_) (by rfl) hK
  dsimp only
  rw [if_pos ⟨hs x, hs y⟩]
  rfl
theorem row_all (l : List EvD) : row (fun x => cellsE (atE l x)) (List.range l.length) = l.map Cod.enc := by
  apply List.ext_getElem?
  intro i
  rw [row, List.getElem?_map, List.getElem?_map]
  by_cases h : i < l.length
  · simp [h, atE]; rfl
  · simp [h]
theorem row_tags (l : List EvD) (T : List Nat) : row (fun x => cellsE (atE l x)) T = (T.map (atE l)).map Cod.enc := by
  rw [row, List.map_map]; rfl
end Go.Proofs.Ytoccifhckpjfaaa
