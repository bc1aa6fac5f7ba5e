/-
  Small bridges: what is closed and runs to true; arguments that are read.
-/
import Derived.Test.YtnafhnnhhdmnfaaIdlZE
namespace Go.Idl
set_option linter.all false

theorem aw_of {P : Program} {f : FuncId} {F : List V → Option V} (hc : Contract P f F) (h : F [] = some (.sc (.bool true))) : Contract P f (FT fun (_ : Unit) => some true) := by
  intro I w args xs r hlen hrep hI hF
  have hx : xs = [] := by
    cases xs with
    | nil => rfl
    | cons x xs => simp [FT, FTb, CodA.decA] at hF
  subst hx
  have hr : r = .sc (.bool true) := by
    simp only [FT, FTb, CodA.decA, FTc, CodR.encR, Cod.enc, Option.some.injEq] at hF
    exact hF.symm
  subst hr
  exact hc I w args [] _ hlen hrep hI h

/-- A law that is always true, at whatever its arguments stand for. -/
theorem FT_true {τ : Type} [CodA τ] {g : τ → Option Bool} {xs : List V} {t : τ} (h : CodA.decA xs = some t) (hg : g t = some true) : FT g xs = some (.sc (.bool true)) := by
  simp only [FT, FTb, h, FTc, hg]
  rfl
theorem decA_shape_nil {P : Program} {n : Nat} {xs : List V} (h : ShapeArgs P n [] xs) : (CodA.decA xs : Option Unit) = some () := by
  simp only [ShapeArgs] at h; subst h; rfl
theorem decA_mk {α τ : Type} [Cod α] [CodA τ] {x : V} {xs : List V} {a : α} {t : τ} (h1 : Cod.dec x = some a) (h2 : CodA.decA xs = some t) : (CodA.decA (x :: xs) : Option (α × τ)) = some (a, t) := by
  rw [decA_cons, h1, h2]; rfl

/-- A type's readings are data. -/
def Reads (P : Program) (n : Nat) (t : TypeId) (α : Type) [Cod α] (ok : α → Prop) : Prop := ∀ cs, Shape P n t cs → ∃ a : α, V.ofCells (aggT P t) cs = Cod.enc a ∧ cs = (Cod.enc a).cells ∧ ok a
theorem Reads.args {P : Program} {n : Nat} {t : TypeId} {ts : List TypeId} {α τ : Type} [Cod α] [CodA τ] {ok : α → Prop} {okt : τ → Prop} (h : Reads P n t α ok) (hs : ∀ xs, ShapeArgs P n ts xs → ∃ y : τ, CodA.decA xs = some y ∧ okt y) :
    ∀ xs, ShapeArgs P n (t :: ts) xs → ∃ y : α × τ, CodA.decA xs = some y ∧ ok y.1 ∧ okt y.2 := by
  rintro xs ⟨cs, ys, rfl, h1, h2⟩
  obtain ⟨a, ha, _, hok⟩ := h cs h1
  obtain ⟨y, hy, hoky⟩ := hs ys h2
  exact ⟨(a, y), decA_mk (by rw [ha]; exact Cod.dec_enc a) hy, hok, hoky⟩
theorem Reads.nil {P : Program} {n : Nat} : ∀ xs, ShapeArgs P n [] xs → ∃ y : Unit, CodA.decA xs = some y ∧ True := fun _ h => ⟨(), decA_shape_nil h, trivial⟩
theorem Reads.int {P : Program} {n : Nat} {t : TypeId} (h : P.underlying t = some (.int .i64)) : Reads P (n + 1) t Int okI := by
  intro cs hs
  rw [shape_int h] at hs
  obtain ⟨m, rfl, h1, h2⟩ := hs
  exact ⟨m, by simp [V.ofCells, aggT, h, Cod.enc], rfl, h1, h2⟩
theorem Reads.kint {P : Program} {n : Nat} {t : TypeId} {k : IntKind} (h : P.underlying t = some (.int k)) : Reads P (n + 1) t (KInt k) fun _ => True := by
  intro cs hs
  rw [shape_int h] at hs
  obtain ⟨m, rfl, h1, h2⟩ := hs
  exact ⟨⟨m, h1, h2⟩, by simp [V.ofCells, aggT, h, Cod.enc], rfl, trivial⟩
theorem Reads.bool {P : Program} {n : Nat} {t : TypeId} (h : P.underlying t = some .bool) : Reads P (n + 1) t Bool fun _ => True := by
  intro cs hs
  rw [shape_bool h] at hs
  obtain ⟨m, rfl⟩ := hs
  exact ⟨m, by simp [V.ofCells, aggT, h, Cod.enc], rfl, trivial⟩
theorem Reads.str {P : Program} {n : Nat} {t : TypeId} (h : P.underlying t = some .string) : Reads P (n + 1) t ByteArray okS := by
  intro cs hs
  rw [shape_string h] at hs
  obtain ⟨m, rfl, h1⟩ := hs
  exact ⟨m, by simp [V.ofCells, aggT, h, Cod.enc], rfl, h1⟩
theorem Reads.list {P : Program} {n : Nat} {t e : TypeId} {α : Type} [Cod α] {ok : α → Prop} (h : P.underlying t = some (.slice e)) (hz : P.cellsOf e = Cod.sz α) (hr : Reads P n e α ok) : Reads P (n + 1) t (List α) (okL ok) := by
  intro cs hs
  rw [shape_slice h] at hs
  obtain ⟨es, rfl, h1, h2⟩ := hs
  have key : ∀ es : List (List V), (∀ x ∈ es, Shape P n e x) → ∃ l : List α, es.map (V.ofCells (aggT P e)) = l.map Cod.enc ∧ l.length = es.length ∧ ∀ a ∈ l, ok a := by
    intro es
    induction es with
    | nil => intro _; exact ⟨[], rfl, rfl, by simp⟩
    | cons x es ih =>
      intro hx
      obtain ⟨a, ha, _, hok⟩ := hr x (hx x (by simp))
      obtain ⟨l, hl1, hl2, hl3⟩ := ih fun y hy => hx y (by simp [hy])
      exact ⟨a :: l, by simp [ha, hl1], by simp [hl2], by simpa using ⟨hok, hl3⟩⟩
  obtain ⟨l, hl1, hl2, hl3⟩ := key es h2
  have e1 : V.slice (P.cellsOf e) (es.map (V.ofCells (aggT P e))) = Cod.enc l := by rw [hl1, hz]; rfl
  refine ⟨l, ?_, by rw [e1]; rfl, by rw [hl2]; exact h1, hl3⟩
  rw [e1]
  simp [V.ofCells, aggT, h]

/-- The fields of a struct, one by one. -/
theorem shapeFs_nil {S : TypeId → List V → Prop} {xs : List V} (h : ShapeFs S [] xs) : xs = [] := h
theorem shapeFs_cons {S : TypeId → List V → Prop} {fd : Field} {fs : List Field} {xs : List V} (h : ShapeFs S (fd :: fs) xs) : ∃ p q, xs = p ++ q ∧ S fd.type p ∧ ShapeFs S fs q := h
theorem aggT_struct {P : Program} {t : TypeId} {fs : Array Field} (h : P.underlying t = some (.struct fs)) : aggT P t = true := by simp [aggT, h]

end Go.Idl
