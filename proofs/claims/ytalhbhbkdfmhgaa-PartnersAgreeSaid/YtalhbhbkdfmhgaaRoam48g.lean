/- Maps from names to what bears them; what valid parties keep to. -/
import Derived.Test.YtalhbhbkdfmhgaaRoam48f
namespace Go.Proofs.Ytalhbhbkdfmhgaa
set_option linter.all false
open Go.Idl
set_option maxHeartbeats 4000000
set_option maxRecDepth 100000
attribute [local go_sem] agPty agCdr agDis eqDis agDir agObj eqItm Try.underlying3 Try.underlying5 Try.underlying9 Try.underlying4
def kvM {α : Type} (f : α → ByteArray) (l : List α) : List (ByteArray × α) := l.map fun x => (f x, x)
theorem look_kv {α : Type} (f : α → ByteArray) (k : ByteArray) : ∀ l : List α, lookM (kvM f l) k = getI f l k
  | [] => rfl
  | x :: l => by
    have ih := look_kv f k l
    simp only [kvM, List.map_cons, lookM, List.find?_cons, getI] at ih ⊢
    by_cases h : f x = k
    · simp [h]
    · have h' : ¬ k = f x := fun e => h e.symm
      simp only [h, h', decide_false]
      exact ih
theorem put_kv {α : Type} (f : α → ByteArray) {a : List α} {t : α} (h : hasI f a (f t) = false) : putM (kvM f a) (f t) t = kvM f (a ++ [t]) := by
  unfold putM
  have : fidx (kvM f a) (f t) = none := by
    rw [← lookM_none, look_kv]
    rw [hasI_get] at h
    cases hg : getI f a (f t) with
    | none => rfl
    | some x => rw [hg] at h; cases h
  rw [this]
  simp [kvM]
theorem kv_len {α : Type} (f : α → ByteArray) (l : List α) : (kvM f l).length = l.length := by rw [kvM, List.length_map]
theorem low_kc {κ : Type} (n : Nat) (m : List (κ × CdrD)) : (valsM m).all (V.low n) = true := by
  simp only [valsM, List.all_map, List.all_eq_true]
  intro x _
  rfl
theorem isF_kc {κ : Type} (m : List (κ × CdrD)) : (valsM m).all V.isF = true := by
  simp only [valsM, List.all_map, List.all_eq_true]
  intro x _
  rfl
theorem low_kd {κ : Type} (n : Nat) (m : List (κ × Disp)) : (valsM m).all (V.low n) = true := by
  simp only [valsM, List.all_map, List.all_eq_true]
  intro x _
  rfl
theorem putF_kc (id : Nat) (c : CdrD) (m : List (ByteArray × CdrD)) : putF' id (.string c.id) (.agg [.sc (.string c.id), .sc (.string c.operator), .sc (.string c.provider), .sc (.string c.session), .sc (.int .i64 c.version), .sc (.int .i64 c.start), .sc (.int .i64 c.stop), .sc (.int .i64 c.energy), .sc (.string c.tariff), .sc (.string c.currency), .slice 7 (c.items.map Cod.enc), .sc (.int .i64 c.total), .sc (.bool c.credit), .sc (.string c.ref)]) (keysM m) (valsM m) (some (fidx m c.id)) =
    some (.any, [(id, .ext (.map (keysM (putM m c.id c)) (valsM (putM m c.id c))))]) := putF_typed id _ _ m c.id c rfl rfl
theorem putF_kd (id : Nat) (c : Disp) (m : List (ByteArray × Disp)) : putF' id (.string c.cdr) (.agg [.sc (.string c.cdr), .sc (.string c.who), .sc (.int .i64 c.state), .sc (.int .i64 c.opened), .sc (.int .i64 c.claim), .sc (.int .i64 c.granted)]) (keysM m) (valsM m) (some (fidx m c.cdr)) =
    some (.any, [(id, .ext (.map (keysM (putM m c.cdr c)) (valsM (putM m c.cdr c))))]) := putF_typed id _ _ m c.cdr c rfl rfl
theorem hasI_mem {α : Type} {f : α → ByteArray} {l : List α} {k : ByteArray} : hasI f l k = true ↔ ∃ x ∈ l, f x = k := by simp [hasI]
theorem recV_zero (name : ByteArray) : ∀ (l a : List CdrD), recV name a l = 0 → (l.map CdrD.id).Nodup ∧ ∀ x ∈ l, hasI CdrD.id a x.id = false
  | [], a, _ => ⟨List.nodup_nil, by simp⟩
  | c :: l, a, h => by
    rw [recV] at h
    cases h1 : cdrS c == 0 with
    | false => rw [h1] at h; simp at h; simp [h] at h1
    | true =>
      rw [h1] at h
      simp only [Bool.not_true, cond_false] at h
      cases h2 : !decide (c.operator = name) && !decide (c.provider = name) with
      | true => rw [h2] at h; simp at h
      | false =>
        rw [h2, cond_false] at h
        cases h3 : hasI CdrD.id a c.id with
        | true => rw [h3] at h; simp at h
        | false =>
          rw [h3, cond_false] at h
          obtain ⟨g1, g2⟩ := recV_zero name l (a ++ [c]) h
          have g3 : ∀ x ∈ l, hasI CdrD.id a x.id = false ∧ ¬ c.id = x.id := fun x hx => by
            have := g2 x hx
            simp only [hasI, List.any_append, List.any_cons, List.any_nil, Bool.or_false, Bool.or_eq_false_iff, decide_eq_false_iff_not] at this
            exact ⟨by simpa [hasI] using this.1, this.2⟩
          refine ⟨?_, ?_⟩
          · rw [List.map_cons, List.nodup_cons]
            refine ⟨?_, g1⟩
            intro hm
            obtain ⟨x, hx, he⟩ := List.mem_map.1 hm
            exact (g3 x hx).2 he.symm
          · intro x hx
            rcases List.mem_cons.1 hx with rfl | hx
            · exact h3
            · exact (g3 x hx).1
theorem disV_zero (cs : List CdrD) : ∀ (l a : List Disp), disV cs a l = 0 → (l.map Disp.cdr).Nodup ∧ (∀ x ∈ l, hasI Disp.cdr a x.cdr = false) ∧ ∀ x ∈ l, hasI CdrD.id cs x.cdr = true
  | [], a, _ => ⟨List.nodup_nil, by simp, by simp⟩
  | d :: l, a, h => by
    rw [disV] at h
    cases h1 : validD d == 0 with
    | false => rw [h1] at h; simp at h; simp [h] at h1
    | true =>
      rw [h1] at h
      simp only [Bool.not_true, cond_false] at h
      cases h2 : getI CdrD.id cs d.cdr with
      | none => rw [h2] at h; simp at h
      | some c =>
        rw [h2] at h
        dsimp only at h
        cases h4 : !decide (d.who = c.provider) with
        | true => rw [h4] at h; simp at h
        | false =>
          rw [h4, cond_false] at h
          cases h3 : hasI Disp.cdr a d.cdr with
          | true => rw [h3] at h; simp at h
          | false =>
            rw [h3, cond_false] at h
            obtain ⟨g1, g2, g4⟩ := disV_zero cs l (a ++ [d]) h
            have g3 : ∀ x ∈ l, hasI Disp.cdr a x.cdr = false ∧ ¬ d.cdr = x.cdr := fun x hx => by
              have := g2 x hx
              simp only [hasI, List.any_append, List.any_cons, List.any_nil, Bool.or_false, Bool.or_eq_false_iff, decide_eq_false_iff_not] at this
              exact ⟨by simpa [hasI] using this.1, this.2⟩
            refine ⟨?_, ?_, ?_⟩
            · rw [List.map_cons, List.nodup_cons]
              refine ⟨?_, g1⟩
              intro hm
              obtain ⟨x, hx, he⟩ := List.mem_map.1 hm
              exact (g3 x hx).2 he.symm
            · intro x hx
              rcases List.mem_cons.1 hx with rfl | hx
              · exact h3
              · exact (g3 x hx).1
            · intro x hx
              rcases List.mem_cons.1 hx with rfl | hx
              · rw [hasI_get, h2]; rfl
              · exact g4 x hx
structure WP (p : PartyD) : Prop where
  name : okName p.name = true
  dir : validDir p.dir = 0
  party : p.dir.party = p.name
  c : p.cdrs.length ≤ 256
  d : p.disputes.length ≤ 256
  ids : (p.cdrs.map CdrD.id).Nodup
  dids : (p.disputes.map Disp.cdr).Nodup
  about : ∀ x ∈ p.disputes, hasI CdrD.id p.cdrs x.cdr = true
theorem wp {p : PartyD} (h : validP p = 0) : WP p := by
  rw [validP] at h
  cases h1 : okName p.name with
  | false => rw [h1] at h; simp at h
  | true =>
    rw [h1] at h
    simp only [Bool.not_true, cond_false] at h
    cases h2 : validDir p.dir == 0 with
    | false => rw [h2] at h; simp at h; simp [h] at h2
    | true =>
      rw [h2] at h
      simp only [Bool.not_true, cond_false] at h
      cases h3 : decide (p.dir.party = p.name) with
      | false => rw [h3] at h; simp at h
      | true =>
        rw [h3] at h
        simp only [Bool.not_true, cond_false] at h
        cases h4 : recsV p == 0 with
        | false => rw [h4] at h; simp at h; simp [h] at h4
        | true =>
          rw [h4] at h
          simp only [Bool.not_true, cond_false] at h
          have h4' : recsV p = 0 := by simpa using h4
          unfold recsV at h4'
          unfold dissV at h
          cases h5 : decide ((p.cdrs.length : Int) > 256) with
          | true => rw [h5] at h4'; simp at h4'
          | false =>
            cases h6 : decide ((p.disputes.length : Int) > 256) with
            | true => rw [h6] at h; simp at h
            | false =>
              rw [h5, cond_false] at h4'
              rw [h6, cond_false] at h
              obtain ⟨a1, _⟩ := recV_zero _ _ _ h4'
              obtain ⟨b1, _, b2⟩ := disV_zero _ _ _ h
              simp only [decide_eq_false_iff_not] at h5 h6
              exact ⟨h1, by simpa using h2, by simpa using h3, by omega, by omega, a1, b1, b2⟩
theorem nodup_has {α : Type} {f : α → ByteArray} {a xs : List α} {x : α} (h : ((a ++ x :: xs).map f).Nodup) : hasI f a (f x) = false := by
  cases hh : hasI f a (f x) with
  | false => rfl
  | true =>
    obtain ⟨y, hy, he⟩ := hasI_mem.1 hh
    rw [List.map_append, List.nodup_append] at h
    exact absurd he (h.2.2 (f y) (List.mem_map_of_mem hy) (f x) (by simp))
theorem has_filter {α : Type} {f : α → ByteArray} {q : α → Bool} {a : List α} {k : ByteArray} (h : hasI f a k = false) : hasI f (a.filter q) k = false := by
  cases hh : hasI f (a.filter q) k with
  | false => rfl
  | true =>
    obtain ⟨y, hy, he⟩ := hasI_mem.1 hh
    have : hasI f a k = true := hasI_mem.2 ⟨y, (List.mem_filter.1 hy).1, he⟩
    rw [this] at h; cases h
theorem get_mem {α : Type} {f : α → ByteArray} {l : List α} (hn : (l.map f).Nodup) {x : α} (hx : x ∈ l) : getI f l (f x) = some x := by
  induction l with
  | nil => cases hx
  | cons y l ih =>
    rw [List.map_cons, List.nodup_cons] at hn
    rw [getI, List.find?_cons]
    rcases List.mem_cons.1 hx with rfl | hx
    · simp
    · have : ¬ f y = f x := fun e => hn.1 (e ▸ List.mem_map_of_mem hx)
      simp only [this, decide_false]
      exact ih hn.2 hx
theorem mem_get {α : Type} {f : α → ByteArray} {l : List α} {k : ByteArray} {x : α} (h : getI f l k = some x) : x ∈ l ∧ f x = k := by
  unfold getI at h
  exact ⟨List.mem_of_find?_eq_some h, by simpa using List.find?_some h⟩
theorem sameAt_mem {α : Type} {f : α → ByteArray} {eq : α → α → Bool} (he : ∀ {a b}, eq a b = true ↔ a = b) {l : List α} (hn : (l.map f).Nodup) (x : α) : sameAt eq x (getI f l (f x)) = true ↔ x ∈ l := by
  constructor
  · intro h
    cases hg : getI f l (f x) with
    | none => rw [hg] at h; cases h
    | some y =>
      rw [hg] at h
      rw [he.1 h]
      exact (mem_get hg).1
  · intro h
    rw [get_mem hn h]
    exact he.2 rfl
end Go.Proofs.Ytalhbhbkdfmhgaa
