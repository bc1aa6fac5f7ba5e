/- Two partners (plain): valid parties, merged disputes. -/
import Derived.Test.YtalhbhbkdfmhgaaBill25
import Derived.Test.YtalhbhbkdfmhgaaSyn25q
import Derived.Test.YtalhbhbkdfmhgaaRoam48i
import Derived.Test.YtalhbhbkdfmhgaaRoam48l
namespace Go.Proofs.Ytalhbhbkdfmhgaa
set_option linter.all false
open Go.Idl
set_option maxRecDepth 100000
theorem has_not {α : Type} {f : α → ByteArray} {l : List α} {k : ByteArray} (h : ∀ x ∈ l, f x ≠ k) : hasI f l k = false := by
  cases hh : hasI f l k with
  | false => rfl
  | true =>
    obtain ⟨x, hx, he⟩ := hasI_mem.1 hh
    exact absurd he (h x hx)
theorem get_not {α : Type} {f : α → ByteArray} {l : List α} {k : ByteArray} (h : ∀ x ∈ l, f x ≠ k) : getI f l k = none := by
  have h1 := has_not h
  rw [hasI_get] at h1
  cases hg : getI f l k with
  | none => rfl
  | some x => rw [hg] at h1; cases h1
theorem recV_mk (name : ByteArray) : ∀ (l a : List CdrD), (∀ c ∈ l, cdrS c = 0 ∧ (c.operator = name ∨ c.provider = name)) → ((a ++ l).map CdrD.id).Nodup → recV name a l = 0
  | [], a, _, _ => rfl
  | c :: l, a, h, hn => by
    obtain ⟨h1, h2⟩ := h c (by simp)
    have h3 : hasI CdrD.id a c.id = false := nodup_has hn
    have h4 : (!decide (c.operator = name) && !decide (c.provider = name)) = false := by
      rcases h2 with h2 | h2 <;> simp [h2]
    rw [recV, h1, h3, h4]
    exact recV_mk name l (a ++ [c]) (fun x hx => h x (List.mem_cons_of_mem _ hx)) (by rw [List.append_assoc]; exact hn)
theorem disV_mk (cs : List CdrD) (hcs : (cs.map CdrD.id).Nodup) : ∀ (l a : List Disp), (∀ d ∈ l, validD d = 0 ∧ ∃ c ∈ cs, c.id = d.cdr ∧ d.who = c.provider) → ((a ++ l).map Disp.cdr).Nodup → disV cs a l = 0
  | [], a, _, _ => rfl
  | d :: l, a, h, hn => by
    obtain ⟨h1, c, hc, h2, h3⟩ := h d (by simp)
    have h4 : hasI Disp.cdr a d.cdr = false := nodup_has hn
    have h5 : getI CdrD.id cs d.cdr = some c := by rw [← h2]; exact get_mem hcs hc
    rw [disV, h1, h4, h5]
    dsimp only
    rw [show decide (d.who = c.provider) = true from decide_eq_true h3]
    exact disV_mk cs hcs l (a ++ [d]) (fun x hx => h x (List.mem_cons_of_mem _ hx)) (by rw [List.append_assoc]; exact hn)
theorem valid_mk {p : PartyD} (h1 : okName p.name = true) (h2 : validDir p.dir = 0) (h3 : p.dir.party = p.name) (h4 : p.cdrs.length ≤ 256) (h5 : ∀ c ∈ p.cdrs, cdrS c = 0 ∧ (c.operator = p.name ∨ c.provider = p.name)) (h6 : (p.cdrs.map CdrD.id).Nodup)
    (h7 : p.disputes.length ≤ 256) (h8 : ∀ d ∈ p.disputes, validD d = 0 ∧ ∃ c ∈ p.cdrs, c.id = d.cdr ∧ d.who = c.provider) (h9 : (p.disputes.map Disp.cdr).Nodup) : validP p = 0 := by
  have e1 : recsV p = 0 := by
    rw [recsV, show decide ((p.cdrs.length : Int) > 256) = false from decide_eq_false (by omega)]
    exact recV_mk _ _ [] h5 (by simpa using h6)
  have e2 : dissV p = 0 := by
    rw [dissV, show decide ((p.disputes.length : Int) > 256) = false from decide_eq_false (by omega)]
    exact disV_mk _ h6 _ [] h8 (by simpa using h9)
  rw [validP, h1, h2, e1, e2, show decide (p.dir.party = p.name) = true from decide_eq_true h3]
  rfl
theorem pl_nodup {l : List Disp} {i j : Nat} {x : Disp} (hn : (l.map Disp.cdr).Nodup) (hj : l[j]? = some x) : lookM (plM l i) x.cdr = some ((i + j : Nat) : Int) := by
  induction l generalizing i j with
  | nil => simp at hj
  | cons y l ih =>
    rw [List.map_cons, List.nodup_cons] at hn
    cases j with
    | zero =>
      rw [List.getElem?_cons_zero] at hj
      cases hj
      simp [lookM, plM]
    | succ j =>
      rw [List.getElem?_cons_succ] at hj
      have : ¬ x.cdr = y.cdr := fun e => hn.1 (e ▸ List.mem_map_of_mem (List.mem_of_getElem? hj))
      have e1 : lookM (plM (y :: l) i) x.cdr = lookM (plM l (i + 1)) x.cdr := by simp [lookM, plM, this]
      rw [e1, ih hn.2 hj, show i + 1 + j = i + (j + 1) by omega]
def mgU (o : List Disp) (x : Disp) : Disp := match getI Disp.cdr o x.cdr with
  | some d => furS x d
  | none => x
theorem mg_all {l o : List Disp} (hl : (l.map Disp.cdr).Nodup) (ho : (o.map Disp.cdr).Nodup) : mgD l o = l.map (mgU o) ++ o.filter fun d => !hasI Disp.cdr l d.cdr := by
  have key : ∀ (r q : List Disp), q ++ r = o → r.foldl (mg1 l) (l.map (mgU q) ++ q.filter fun d => !hasI Disp.cdr l d.cdr) = l.map (mgU o) ++ o.filter fun d => !hasI Disp.cdr l d.cdr := by
    intro r
    induction r with
    | nil => intro q hq; rw [List.append_nil] at hq; rw [hq]; rfl
    | cons d r ih =>
      intro q hq
      have hnq : (q.map Disp.cdr).Nodup ∧ ∀ x ∈ q, x.cdr ≠ d.cdr := by
        rw [← hq, List.map_append, List.nodup_append] at ho
        exact ⟨ho.1, fun x hx => ho.2.2 _ (List.mem_map_of_mem hx) _ (by simp)⟩
      rw [List.foldl_cons, ← ih (q ++ [d]) (by rw [← hq]; simp)]
      congr 1
      rw [List.filter_append]
      have hU : ∀ x ∈ l, x.cdr ≠ d.cdr → mgU (q ++ [d]) x = mgU q x := fun x _ hx => by
        unfold mgU getI
        rw [List.find?_append]
        have : List.find? (fun y : Disp => decide (y.cdr = x.cdr)) [d] = none := by simp [Ne.symm hx]
        rw [this]; simp
      rcases pl_look l 0 d.cdr with ⟨e1, e2⟩ | ⟨j, _, hj, e, y, hy, hyd⟩
      · have : ∀ x ∈ l, x.cdr ≠ d.cdr := fun x hx he => by
          have := hasI_mem.2 ⟨x, hx, he⟩
          rw [e1] at this; cases this
        rw [mg1, e2]
        dsimp only
        rw [List.map_congr_left (fun x hx => hU x hx (this x hx))]
        simp [e1]
      · rw [Nat.sub_zero] at hy
        have hhas : hasI Disp.cdr l d.cdr = true := hasI_mem.2 ⟨y, List.mem_of_getElem? hy, hyd⟩
        have hjl : j < l.length := by omega
        have hUy : mgU q y = y := by
          unfold mgU
          rw [get_not (fun x hx => by rw [hyd]; exact hnq.2 x hx)]
        have hUy2 : mgU (q ++ [d]) y = furS y d := by
          unfold mgU getI
          rw [List.find?_append]
          have h1 : List.find? (fun x : Disp => decide (x.cdr = y.cdr)) q = none := get_not (f := Disp.cdr) (fun x hx => by rw [hyd]; exact hnq.2 x hx)
          rw [h1]
          simp [hyd]
        rw [mg1, e]
        dsimp only
        rw [Int.toNat_natCast, List.getElem?_append_left (by simpa using hjl), List.getElem?_map, hy]
        dsimp only [Option.map_some]
        rw [hUy, List.set_append_left _ _ (by simpa using hjl)]
        congr 1
        · apply List.ext_getElem?
          intro k
          rw [List.getElem?_set, List.getElem?_map, List.getElem?_map]
          by_cases hk : j = k
          · subst hk
            rw [if_pos rfl, if_pos (by simpa using hjl), hy, Option.map_some, hUy2]
          · rw [if_neg hk]
            cases hlk : l[k]? with
            | none => rfl
            | some z =>
              rw [Option.map_some, Option.map_some, hU z (List.mem_of_getElem? hlk) (fun he => hk ?_)]
              have q1 := pl_nodup (i := 0) hl hlk
              have q2 := pl_nodup (i := 0) hl hy
              rw [he, ← hyd, q2] at q1
              simp at q1; omega
        · simp [hhas]
  have h0 : l.map (mgU []) = l := by
    conv => rhs; rw [← List.map_id l]
    exact List.map_congr_left fun x _ => rfl
  have := key o [] rfl
  rw [h0] at this
  simpa [mgD] using this
theorem idx_set {l : List Disp} {id : ByteArray} {x d : Disp} (hl : (l.map Disp.cdr).Nodup) (hx : x ∈ l) (hid : x.cdr = id) : setI l id d = l.map fun y => if y.cdr = id then d else y := by
  rcases idxI_get Disp.cdr id l 0 with ⟨_, e⟩ | ⟨j, y, _, e, hy, hg⟩
  · rw [← hid, get_mem hl hx] at e; cases e
  · rw [Nat.sub_zero] at hy
    have hyid := (mem_get hg).2
    rw [setI, e, Int.toNat_natCast]
    apply List.ext_getElem?
    intro k
    rw [List.getElem?_set, List.getElem?_map]
    have hjl := (List.getElem?_eq_some_iff.1 hy).1
    by_cases hk : j = k
    · subst hk
      rw [if_pos rfl, if_pos hjl, hy, Option.map_some, if_pos hyid]
    · rw [if_neg hk]
      cases hlk : l[k]? with
      | none => rfl
      | some z =>
        rw [Option.map_some, if_neg (fun he => hk ?_)]
        have q1 := pl_nodup (i := 0) hl hlk
        have q2 := pl_nodup (i := 0) hl hy
        rw [he, ← hyid, q2] at q1
        simp at q1; omega
end Go.Proofs.Ytalhbhbkdfmhgaa
