/-
  Ideal values: what a Go value holds, with the contents of its slices in it, and how such a value stands in a world of the model.
-/
import Derived.Orders
import Derived.Laws.Sem
import Derived.Below
namespace Go.Idl
set_option linter.all false
open Go.RowKit

inductive V where
  | any
  | sc (v : Value)
  | agg (cs : List V)
  | slice (sz : Nat) (es : List V)
  | own (id off len : Nat)
  | ref (id idx off : Nat)
  | elem (e : V) (off : Nat)
  | tup (vs : List V)
  | iface (t : TypeId) (v : V)
  | fn (f : Fn) (first captured : List V)
  | mt
  | mapf (ks : List Value) (vs : List V)
  | mapr (id : Nat)

def V.cells : V → List V
  | .agg cs => cs
  | v => [v]

/-- Where an object lies: the block, the cell at which it begins, the cells of one element. -/
structure Place where
  blk : Nat
  off : Nat
  sz : Nat

abbrev Places := Nat → Option Place
abbrev Imm := Nat → Nat → Prop

def noPlaces : Places := fun _ => none

/-- An ideal value stands for a value of the model, in a world; 'I': the cells that nobody writes any more. -/
inductive Rep (I : Imm) (w : World) : Places → V → Value → Prop
  | any (γ : Places) (v : Value) : Rep I w γ .any v
  | sc (γ : Places) (v : Value) : Rep I w γ (.sc v) v
  | agg (γ : Places) (cs : List V) (vs : Array Value) (hl : cs.length = vs.size) (h : ∀ (j : Nat) (c : V) (u : Value), cs[j]? = some c → vs[j]? = some u → Rep I w γ c u) :
      Rep I w γ (.agg cs) (.agg vs)
  | nilslice (γ : Places) (sz : Nat) (A : Option Addr) (cap : Nat) : Rep I w γ (.slice sz []) (.slice A 0 cap)
  | slice (γ : Places) (sz : Nat) (es : List V) (g o cap : Nat) (f : Nat → Nat → Value) (hcap : es.length ≤ cap)
      (hsz : ∀ e, e ∈ es → e.cells.length = sz)
      (hc : ∀ i j, i < es.length → j < sz → I g (o + i * sz + j) ∧ w.cell? ⟨g, o + i * sz + j, none⟩ = some (f i j))
      (h : ∀ (i j : Nat) (e c : V), es[i]? = some e → e.cells[j]? = some c → Rep I w noPlaces c (f i j)) :
      Rep I w γ (.slice sz es) (.slice (some ⟨g, o, none⟩) es.length cap)
  | own (γ : Places) (id off len cap : Nat) (p : Place) (c : Array Value) (t : TypeId) (hp : γ id = some p) (hcap : len ≤ cap)
      (hb : w.heap[p.blk]? = some (.cells c t (0, 0))) (hroom : p.off + (off + cap) * p.sz ≤ c.size) :
      Rep I w γ (.own id off len) (.slice (some ⟨p.blk, p.off + off * p.sz, none⟩) len cap)
  | own0 (γ : Places) (id off : Nat) (A : Option Addr) : Rep I w γ (.own id off 0) (.slice A 0 0)
  | mt (γ : Places) (A : Option Addr) : Rep I w γ .mt (.slice A 0 0)
  | mapf (γ : Places) (ks : List Value) (vs : List V) (r clock : Nat) (ents : Array MapEntry) (hI : I r 0) (hr : w.heap[r]? = some (.map ents clock)) (hl : ks.length = vs.length)
      (hk : ents.toList.map (·.key) = ks) (h : ∀ (j : Nat) (x : V) (e : MapEntry), vs[j]? = some x → ents[j]? = some e → Rep I w noPlaces x e.val) :
      Rep I w γ (.mapf ks vs) (.map (some r))
  | mapr (γ : Places) (id : Nat) (p : Place) (hp : γ id = some p) : Rep I w γ (.mapr id) (.map (some p.blk))
  | ref (γ : Places) (id idx off : Nat) (p : Place) (hp : γ id = some p) :
      Rep I w γ (.ref id idx off) (.pointer (some ⟨p.blk, p.off + idx * p.sz + off, none⟩))
  | elem (γ : Places) (e : V) (off g o : Nat) (f : Nat → Value)
      (hc : ∀ j, j < e.cells.length → I g (o + j) ∧ w.cell? ⟨g, o + j, none⟩ = some (f j))
      (h : ∀ (j : Nat) (c : V), e.cells[j]? = some c → Rep I w noPlaces c (f j)) :
      Rep I w γ (.elem e off) (.pointer (some ⟨g, o + off, none⟩))
  | tup (γ : Places) (cs : List V) (vs : Array Value) (hl : cs.length = vs.size) (h : ∀ (j : Nat) (c : V) (u : Value), cs[j]? = some c → vs[j]? = some u → Rep I w γ c u) :
      Rep I w γ (.tup cs) (.tuple vs)
  | iface (γ : Places) (t : TypeId) (x : V) (u : Value) (h : Rep I w γ x u) : Rep I w γ (.iface t x) (.iface t u)
  | fn (γ : Places) (f : Fn) (xs ys : List V) (us vs : Array Value) (hx : xs.length = us.size) (hy : ys.length = vs.size)
      (h1 : ∀ (j : Nat) (c : V) (u : Value), xs[j]? = some c → us[j]? = some u → Rep I w γ c u)
      (h2 : ∀ (j : Nat) (c : V) (u : Value), ys[j]? = some c → vs[j]? = some u → Rep I w γ c u) :
      Rep I w γ (.fn f xs ys) (.func f us vs)

/-- The cells that nobody writes read as before, and no block has gone or changed its size. -/
structure Pres (I : Imm) (w w' : World) : Prop where
  cell : ∀ g x, I g x → w'.cell? ⟨g, x, none⟩ = w.cell? ⟨g, x, none⟩
  size : ∀ (g : Nat) (c : Array Value) (t : TypeId), w.heap[g]? = some (.cells c t (0, 0)) → ∃ c', w'.heap[g]? = some (.cells c' t (0, 0)) ∧ c'.size = c.size
  raw : ∀ (g : Nat) (es : Array MapEntry) (n : Nat), I g 0 → w.heap[g]? = some (.map es n) → w'.heap[g]? = some (.map es n)

theorem Pres.refl (I : Imm) (w : World) : Pres I w w := ⟨fun _ _ _ => rfl, fun _ c _ h => ⟨c, h, rfl⟩, fun _ _ _ _ h => h⟩

theorem Rep.mono {I I' : Imm} {w w' : World} {γ : Places} {x : V} {v : Value} (h : Rep I w γ x v) (hp : Pres I w w') (hI : ∀ g x, I g x → I' g x) :
    ∀ {γ' : Places}, (∀ id p, γ id = some p → γ' id = some p) → Rep I' w' γ' x v := by
  induction h with
  | any γ v => intro γ' _; exact .any _ _
  | sc γ v => intro γ' _; exact .sc _ _
  | agg γ cs vs hl h ih => intro γ' hγ; exact .agg _ _ _ hl fun j c u hc hu => ih j c u hc hu hγ
  | nilslice γ sz A cap => intro γ' _; exact .nilslice _ _ _ _
  | slice γ sz es g o cap f hcap hsz hc h ih =>
    intro γ' _
    refine .slice _ _ _ _ _ _ f hcap hsz (fun i j hi hj => ?_) fun i j e c he hj => ih i j e c he hj fun _ _ h => h
    obtain ⟨h1, h2⟩ := hc i j hi hj
    exact ⟨hI _ _ h1, (hp.cell _ _ h1).trans h2⟩
  | own γ id off len cap p c t hp' hcap hb hroom =>
    intro γ' hγ
    obtain ⟨c', h1, h2⟩ := hp.size _ _ _ hb
    exact .own _ _ _ _ _ p c' t (hγ _ _ hp') hcap h1 (by omega)
  | own0 γ id off A => intro γ' _; exact .own0 _ _ _ _
  | mt γ A => intro γ' _; exact .mt _ _
  | mapf γ ks vs r clock ents hI0 hr hl hk h ih =>
    intro γ' _
    exact .mapf _ _ _ _ _ _ (hI _ _ hI0) (hp.raw _ _ _ hI0 hr) hl hk fun j x e hx he => ih j x e hx he fun _ _ h => h
  | mapr γ id p hp' => intro γ' hγ; exact .mapr _ _ _ (hγ _ _ hp')
  | ref γ id idx off p hp' => intro γ' hγ; exact .ref _ _ _ _ _ (hγ _ _ hp')
  | elem γ e off g o f hc h ih =>
    intro γ' _
    refine .elem _ _ _ _ _ f (fun j hj => ?_) fun j c hc => ih j c hc fun _ _ h => h
    obtain ⟨h1, h2⟩ := hc j hj
    exact ⟨hI _ _ h1, (hp.cell _ _ h1).trans h2⟩
  | tup γ cs vs hl h ih => intro γ' hγ; exact .tup _ _ _ hl fun j c u hc hu => ih j c u hc hu hγ
  | iface γ t x u h ih => intro γ' hγ; exact .iface _ _ _ _ (ih hγ)
  | fn γ f xs ys us vs hx hy h1 h2 ih1 ih2 => intro γ' hγ; exact .fn _ _ _ _ _ _ hx hy (fun j c u hc hu => ih1 j c u hc hu hγ) fun j c u hc hu => ih2 j c u hc hu hγ

/-- The value of the model, whole, as an ideal one. -/
def V.ofV : Value → V
  | .agg cs => .agg (cs.toList.map .sc)
  | .tuple vs => .tup (vs.toList.map fun | .agg cs => .agg (cs.toList.map .sc) | v => .sc v)
  | v => .sc v

theorem rep_aggs {I : Imm} {w : World} {γ : Places} (cs : Array Value) : Rep I w γ (.agg (cs.toList.map .sc)) (.agg cs) := by
  refine .agg _ _ _ (by simp) fun j c u hc hu => ?_
  simp at hc
  obtain ⟨a, ha, rfl⟩ := hc
  rw [hu] at ha
  cases ha
  exact .sc _ _

theorem Rep.ofV {I : Imm} {w : World} {γ : Places} (v : Value) : Rep I w γ (V.ofV v) v := by
  cases v <;> simp only [V.ofV] <;> try exact .sc _ _
  · exact rep_aggs _
  · rename_i vs
    refine .tup _ _ _ (by simp) fun j c u hc hu => ?_
    simp at hc
    obtain ⟨a, ha, rfl⟩ := hc
    rw [hu] at ha
    cases ha
    split
    · exact rep_aggs _
    · exact .sc _ _

/-- The value of the model that an ideal value names exactly. -/
def V.conc1 : V → Option Value
  | .sc v => some v
  | _ => none
def concL : List V → Option (List Value)
  | [] => some []
  | c :: cs => match c.conc1, concL cs with
    | some v, some vs => some (v :: vs)
    | _, _ => none
def V.conc : V → Option Value
  | .sc v => some v
  | .agg cs => (concL cs).map fun l => .agg l.toArray
  | _ => none

theorem concL_get {cs : List V} : ∀ {l : List Value}, concL cs = some l → cs = l.map .sc := by
  induction cs with
  | nil => intro l h; simp [concL] at h; subst h; rfl
  | cons c cs ih =>
    intro l h
    simp only [concL] at h
    split at h
    · rename_i v vs h1 h2
      simp at h
      subst h
      cases c <;> simp [V.conc1] at h1
      subst h1
      simp [← ih h2]
    · simp at h

theorem Rep.sc_eq {I : Imm} {w : World} {γ : Places} {u v : Value} (h : Rep I w γ (.sc u) v) : v = u := by cases h; rfl

theorem Rep.conc {I : Imm} {w : World} {γ : Places} {x : V} {u v : Value} (h : Rep I w γ x v) (hc : x.conc = some u) : v = u := by
  cases x <;> simp [V.conc] at hc
  · subst hc; exact h.sc_eq
  · obtain ⟨l, hl, rfl⟩ := hc
    have := concL_get hl
    subst this
    cases h with
    | agg _ _ vs hl h =>
      congr 1
      apply Array.ext
      · simpa using hl.symm
      · intro i h1 h2
        have h3 := h i (.sc l[i]) vs[i] (by simp) (by simp)
        have := h3.sc_eq
        simpa using this

/-- A run that looks at the program's tables alone. -/
def runPure {α : Type} (P : Program) : Sem α → Option α
  | .pure a => some a
  | .program k => runPure P (k P)
  | _ => none

theorem runPure_run {α : Type} {P : Program} {s : Sem α} : ∀ {a : α}, runPure P s = some a → ∀ w, s.run P w = .ok a w := by
  induction s with
  | pure b => intro a h w; simp [runPure] at h; subst h; rfl
  | program k ih => intro a h w; simp only [runPure] at h; simp only [Sem.run]; exact ih P h w
  | _ => intro a h; simp [runPure] at h

end Go.Idl
