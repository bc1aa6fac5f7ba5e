/-
  Contracts over typed data: how data stand as ideal values.
-/
import Derived.Test.YtnafhnnhhdmnfaaIdlZB
namespace Go.Idl
set_option linter.all false
open Go.RowKit

attribute [go_sem] List.take_succ_cons List.take_zero List.drop_zero List.drop_succ_cons List.set_cons_zero List.set_cons_succ splice

/-! ### Results that lie in memory -/
def fstO : Option (V × List (Nat × Obj)) → Option V
  | some p => some p.1
  | none => none
@[congr] theorem fstO_congr {x x' : Option (V × List (Nat × Obj))} (h : x = x') : fstO x = fstO x' := by rw [h]
@[go_sem ↓] theorem fstO_some (v : V) (δ : List (Nat × Obj)) : fstO (some (v, δ)) = some v := nd rfl
theorem resOne_cell {P : Program} {t : TypeId} {ag : Option Nat} (h : agOf P t = some ag) (τ : Nat → V) (H : Heap) (n : Nat) (x : Nat) : resOneF P ⟨τ, H, n⟩ (.cell x t) = fstO (loadI ag H (τ x)) := by
  simp only [resOneF]
  generalize τ x = v
  have hr : ∀ (cs : List V) (off : Nat), readC P t cs off = fstO ((readI ag cs off).map (·, ([] : List (Nat × Obj)))) := fun cs off => by
    rw [readI_eq h]; cases readI ag cs off <;> rfl
  cases v with
  | ref id idx off =>
    simp only [evLoad, loadI, loadO]
    generalize H id = ob
    cases ob with
    | live sz es mu =>
      simp only
      cases es[idx]? with
      | none => rfl
      | some e => exact hr _ _
    | _ => rfl
  | elem e off => simp only [evLoad, loadI]; exact hr _ _
  | _ => rfl
def consO {α : Type} : Option α → Option (List α) → Option (List α)
  | some a, some l => some (a :: l)
  | _, _ => none
@[go_sem ↓] theorem consO_some {α : Type} (a : α) (l : List α) : consO (some a) (some l) = some (a :: l) := nd rfl
def packR : Option (List V) → Option V
  | some [x] => some x
  | some ys => some (.tup ys)
  | none => none
def packO (H : Heap) : Option (List V) → Option V
  | some xs => packR (freezesR H xs)
  | none => none
@[congr] theorem packR_congr {x x' : Option (List V)} (h : x = x') : packR x = packR x' := by rw [h]
@[congr] theorem packO_congr {H : Heap} {x x' : Option (List V)} (h : x = x') : packO H x = packO H x' := by rw [h]
@[go_sem ↓] theorem packR_1 (x : V) : packR (some [x]) = some x := nd rfl
@[go_sem ↓] theorem packR_2 (x y : V) (zs : List V) : packR (some (x :: y :: zs)) = some (.tup (x :: y :: zs)) := nd rfl
@[go_sem ↓] theorem packO_some (H : Heap) (xs : List V) : packO H (some xs) = packR (freezesR H xs) := nd rfl
theorem resF_pack (P : Program) (rs : List ResultVar) (τ : Nat → V) (H : Heap) (n : Nat) : resF P rs ⟨τ, H, n⟩ = packO H (resLF P ⟨τ, H, n⟩ rs) := by
  unfold resF
  cases resLF P ⟨τ, H, n⟩ rs with
  | none => rfl
  | some xs =>
    simp only [Option.bind_some, packO]
    cases freezesR H xs with
    | none => rfl
    | some ys =>
      match ys with
      | [] => rfl
      | [x] => rfl
      | x :: y :: zs => rfl
@[go_sem ↓] theorem resF_cell (P : Program) (x : Nat) (t : TypeId) (rs : List ResultVar) (τ : Nat → V) (H : Heap) (n : Nat) : resF P (.cell x t :: rs) ⟨τ, H, n⟩ = packO H (resLF P ⟨τ, H, n⟩ (.cell x t :: rs)) := resF_pack ..
@[go_sem ↓] theorem resF_tcell (P : Program) (y x : Nat) (t : TypeId) (rs : List ResultVar) (τ : Nat → V) (H : Heap) (n : Nat) : resF P (.tmp y :: .cell x t :: rs) ⟨τ, H, n⟩ = packO H (resLF P ⟨τ, H, n⟩ (.tmp y :: .cell x t :: rs)) := resF_pack ..
@[go_sem ↓] theorem resLF_nil (P : Program) (s : SF) : resLF P s [] = some [] := nd rfl
@[go_sem ↓] theorem resLF_tmp (P : Program) (t : Nat) (rs : List ResultVar) (τ : Nat → V) (H : Heap) (n : Nat) : resLF P ⟨τ, H, n⟩ (.tmp t :: rs) = consO (some (τ t)) (resLF P ⟨τ, H, n⟩ rs) := by
  simp only [resLF, resOneF]
  cases resLF P ⟨τ, H, n⟩ rs <;> rfl
@[go_sem] theorem resLF_cell {P : Program} {t : TypeId} {ag : Option Nat} (h : agOf P t = some ag) (x : Nat) (rs : List ResultVar) (τ : Nat → V) (H : Heap) (n : Nat) :
    resLF P ⟨τ, H, n⟩ (.cell x t :: rs) = consO (fstO (loadI ag H (τ x))) (resLF P ⟨τ, H, n⟩ rs) := by
  simp only [resLF, resOne_cell h]
  cases fstO (loadI ag H (τ x)) <;> cases resLF P ⟨τ, H, n⟩ rs <;> rfl

/-- Whatever one stands for, the other stands for. -/
def LeV (v v' : V) : Prop := ∀ (I : Imm) (w : World) (u : Value), Rep I w noPlaces v u → Rep I w noPlaces v' u
theorem LeV.refl (v : V) : LeV v v := fun _ _ _ h => h
def LeL (cs cs' : List V) : Prop := cs.length = cs'.length ∧ ∀ (j : Nat) c c', cs[j]? = some c → cs'[j]? = some c' → LeV c c'
def LeC (v v' : V) : Prop := (∃ cs cs', v = .agg cs ∧ v' = .agg cs' ∧ LeL cs cs') ∨ (v.cells = [v] ∧ v'.cells = [v'] ∧ LeV v v')

theorem LeL.nil : LeL [] [] := ⟨rfl, by simp⟩
theorem LeL.cons {c c' : V} {cs cs' : List V} (h : LeV c c') (hs : LeL cs cs') : LeL (c :: cs) (c' :: cs') :=
  ⟨by simp [hs.1], fun j x y hx hy => by
    cases j with
    | zero => simp at hx hy; subst hx hy; exact h
    | succ j => exact hs.2 j x y (by simpa using hx) (by simpa using hy)⟩
theorem LeC.le {v v' : V} (h : LeC v v') : LeV v v' := by
  rcases h with ⟨cs, cs', rfl, rfl, hl⟩ | ⟨_, _, h⟩
  · intro I w u hr
    cases hr with
    | agg _ _ vs hlen hh =>
      refine .agg _ _ _ (hl.1 ▸ hlen) fun j c u hc hu => ?_
      have hj : j < cs.length := by rw [hl.1]; exact (List.getElem?_eq_some_iff.1 hc).1
      exact hl.2 j cs[j] c (by simp) hc I w u (hh j cs[j] u (by simp) hu)
  · exact h
theorem LeC.cells {v v' : V} (h : LeC v v') : LeL v.cells v'.cells := by
  rcases h with ⟨cs, cs', rfl, rfl, hl⟩ | ⟨h1, h2, h⟩
  · exact hl
  · rw [h1, h2]; exact .cons h .nil
theorem LeC.one {v v' : V} (h1 : v.cells = [v]) (h2 : v'.cells = [v']) (h : LeV v v') : LeC v v' := .inr ⟨h1, h2, h⟩
theorem LeC.agg {cs cs' : List V} (h : LeL cs cs') : LeC (.agg cs) (.agg cs') := .inl ⟨cs, cs', rfl, rfl, h⟩

/-- Data that stand in variables. -/
class Cod (α : Type) where
  enc : α → V
  dec : V → Option α
  sz : Nat
  len : ∀ a, (enc a).cells.length = sz
  dec_enc : ∀ a, dec (enc a) = some a
  le : ∀ v a, dec v = some a → LeC v (enc a)

/-- Results. -/
class CodR (α : Type) where
  encR : α → V
  decR : V → Option α
  leR : ∀ v a, decR v = some a → LeV v (encR a)

instance instR (α : Type) [Cod α] : CodR α where
  encR := Cod.enc
  decR := Cod.dec
  leR := fun v a h => (Cod.le v a h).le
@[go_sem ↓] theorem encR_enc {α : Type} [Cod α] (a : α) : CodR.encR a = Cod.enc a := nd rfl
@[go_sem ↓] theorem decR_dec {α : Type} [Cod α] (v : V) : (CodR.decR v : Option α) = Cod.dec v := nd rfl

def dec2 {α β : Type} : Option α → Option β → Option (α × β)
  | some a, some b => some (a, b)
  | _, _ => none
def dec3 {α β γ : Type} : Option α → Option β → Option γ → Option (α × β × γ)
  | some a, some b, some c => some (a, b, c)
  | _, _, _ => none
@[go_sem ↓] theorem dec2_some {α β : Type} (a : α) (b : β) : dec2 (some a) (some b) = some (a, b) := nd rfl
@[go_sem ↓] theorem dec3_some {α β γ : Type} (a : α) (b : β) (c : γ) : dec3 (some a) (some b) (some c) = some (a, b, c) := nd rfl

theorem LeV.tup {cs cs' : List V} (hl : LeL cs cs') : LeV (.tup cs) (.tup cs') := by
  intro I w u hr
  cases hr with
  | tup _ _ vs hlen hh =>
    refine .tup _ _ _ (hl.1 ▸ hlen) fun j c u hc hu => ?_
    have hj : j < cs.length := by rw [hl.1]; exact (List.getElem?_eq_some_iff.1 hc).1
    exact hl.2 j cs[j] c (by simp) hc I w u (hh j cs[j] u (by simp) hu)

def decP2 {α β : Type} [Cod α] [Cod β] : V → Option (α × β)
  | .tup [x, y] => dec2 (Cod.dec x) (Cod.dec y)
  | _ => none
def decP3 {α β γ : Type} [Cod α] [Cod β] [Cod γ] : V → Option (α × β × γ)
  | .tup [x, y, z] => dec3 (Cod.dec x) (Cod.dec y) (Cod.dec z)
  | _ => none
instance inst2 (α β : Type) [Cod α] [Cod β] : CodR (α × β) where
  encR := fun p => .tup [Cod.enc p.1, Cod.enc p.2]
  decR := decP2
  leR := fun v p h => by
    unfold decP2 at h
    split at h
    · rename_i x y
      cases hx : (Cod.dec x : Option α) with
      | none => simp [hx, dec2] at h
      | some a =>
        cases hy : (Cod.dec y : Option β) with
        | none => simp [hx, hy, dec2] at h
        | some b =>
          rw [hx, hy] at h
          cases h
          exact .tup (.cons (Cod.le _ _ hx).le (.cons (Cod.le _ _ hy).le .nil))
    · cases h
instance inst3 (α β γ : Type) [Cod α] [Cod β] [Cod γ] : CodR (α × β × γ) where
  encR := fun p => .tup [Cod.enc p.1, Cod.enc p.2.1, Cod.enc p.2.2]
  decR := decP3
  leR := fun v p h => by
    unfold decP3 at h
    split at h
    · rename_i x y z
      cases hx : (Cod.dec x : Option α) with
      | none => simp [hx, dec3] at h
      | some a =>
        cases hy : (Cod.dec y : Option β) with
        | none => simp [hx, hy, dec3] at h
        | some b =>
          cases hz : (Cod.dec z : Option γ) with
          | none => simp [hx, hy, hz, dec3] at h
          | some c =>
            rw [hx, hy, hz] at h
            cases h
            exact .tup (.cons (Cod.le _ _ hx).le (.cons (Cod.le _ _ hy).le (.cons (Cod.le _ _ hz).le .nil)))
    · cases h
@[go_sem ↓] theorem encR_2 {α β : Type} [Cod α] [Cod β] (p : α × β) : CodR.encR p = .tup [Cod.enc p.1, Cod.enc p.2] := nd rfl
@[go_sem ↓] theorem encR_3 {α β γ : Type} [Cod α] [Cod β] [Cod γ] (p : α × β × γ) : CodR.encR p = .tup [Cod.enc p.1, Cod.enc p.2.1, Cod.enc p.2.2] := nd rfl
@[go_sem ↓] theorem decR_2 {α β : Type} [Cod α] [Cod β] (x y : V) : (CodR.decR (.tup [x, y]) : Option (α × β)) = dec2 (Cod.dec x) (Cod.dec y) := nd rfl
@[go_sem ↓] theorem decR_3 {α β γ : Type} [Cod α] [Cod β] [Cod γ] (x y z : V) : (CodR.decR (.tup [x, y, z]) : Option (α × β × γ)) = dec3 (Cod.dec x) (Cod.dec y) (Cod.dec z) := nd rfl

/-! ### Numbers, strings -/
instance : Cod Int where
  enc := fun n => .sc (.int .i64 n)
  dec := fun | .sc (.int .i64 n) => some n | _ => none
  sz := 1
  len := fun _ => rfl
  dec_enc := fun _ => rfl
  le := fun v a h => by
    split at h
    · cases h; exact .one rfl rfl (.refl _)
    · cases h
@[go_sem ↓] theorem enc_int (n : Int) : Cod.enc n = .sc (.int .i64 n) := nd rfl
@[go_sem ↓] theorem dec_int (n : Int) : (Cod.dec (.sc (.int .i64 n)) : Option Int) = some n := nd rfl
instance : Cod Bool where
  enc := fun n => .sc (.bool n)
  dec := fun | .sc (.bool n) => some n | _ => none
  sz := 1
  len := fun _ => rfl
  dec_enc := fun _ => rfl
  le := fun v a h => by
    split at h
    · cases h; exact .one rfl rfl (.refl _)
    · cases h
@[go_sem ↓] theorem enc_bool (n : Bool) : Cod.enc n = .sc (.bool n) := nd rfl
@[go_sem ↓] theorem dec_bool (n : Bool) : (Cod.dec (.sc (.bool n)) : Option Bool) = some n := nd rfl
instance : Cod ByteArray where
  enc := fun n => .sc (.string n)
  dec := fun | .sc (.string n) => some n | _ => none
  sz := 1
  len := fun _ => rfl
  dec_enc := fun _ => rfl
  le := fun v a h => by
    split at h
    · cases h; exact .one rfl rfl (.refl _)
    · cases h
@[go_sem ↓] theorem enc_str (n : ByteArray) : Cod.enc n = .sc (.string n) := nd rfl
@[go_sem ↓] theorem dec_str (n : ByteArray) : (Cod.dec (.sc (.string n)) : Option ByteArray) = some n := nd rfl
/-- A number of a kind, within its bounds. -/
def KInt (k : IntKind) : Type := { n : Int // k.min ≤ n ∧ n ≤ k.max }
def decK (k : IntKind) : V → Option (KInt k)
  | .sc (.int k' n) => if h : k' = k ∧ k.min ≤ n ∧ n ≤ k.max then some ⟨n, h.2⟩ else none
  | _ => none
instance (k : IntKind) : Cod (KInt k) where
  enc := fun n => .sc (.int k n.1)
  dec := decK k
  sz := 1
  len := fun _ => rfl
  dec_enc := fun a => by simp [decK, a.2]; rfl
  le := fun v a h => by
    unfold decK at h
    split at h
    · split at h
      · rename_i hh; cases h; cases hh.1; exact .one rfl rfl (.refl _)
      · cases h
    · cases h
@[go_sem ↓] theorem enc_k (k : IntKind) (n : KInt k) : Cod.enc n = .sc (.int k n.1) := nd rfl

/-! ### Lists -/
def decL {α : Type} (dec : V → Option α) : List V → Option (List α)
  | [] => some []
  | v :: vs => match dec v, decL dec vs with
    | some a, some l => some (a :: l)
    | _, _ => none
theorem decL_enc {α : Type} {dec : V → Option α} {enc : α → V} (h : ∀ a, dec (enc a) = some a) (l : List α) : decL dec (l.map enc) = some l := by
  induction l with
  | nil => rfl
  | cons a l ih => simp [decL, h, ih]
theorem decL_cons {α : Type} {dec : V → Option α} {v : V} {vs : List V} {l : List α} (h : decL dec (v :: vs) = some l) : ∃ a l', dec v = some a ∧ decL dec vs = some l' ∧ l = a :: l' := by
  simp only [decL] at h
  split at h
  · rename_i a l' h1 h2; cases h; exact ⟨a, l', h1, h2, rfl⟩
  · cases h
theorem decL_get {α : Type} {dec : V → Option α} : ∀ {vs : List V} {l : List α}, decL dec vs = some l → vs.length = l.length ∧ ∀ (j : Nat) v a, vs[j]? = some v → l[j]? = some a → dec v = some a
  | [], l, h => by simp [decL] at h; subst h; simp
  | v :: vs, l, h => by
    obtain ⟨a, l', h1, h2, rfl⟩ := decL_cons h
    obtain ⟨h3, h4⟩ := decL_get h2
    refine ⟨by simp [h3], fun j x y hx hy => ?_⟩
    cases j with
    | zero => simp at hx hy; subst hx hy; exact h1
    | succ j => exact h4 j x y (by simpa using hx) (by simpa using hy)
def decS {α : Type} [Cod α] : V → Option (List α)
  | .slice s es => if s = Cod.sz α ∨ es = [] then decL Cod.dec es else none
  | .mt => some []
  | .sc (.slice none 0 0) => some []
  | _ => none
instance (α : Type) [Cod α] : Cod (List α) where
  enc := fun l => .slice (Cod.sz α) (l.map Cod.enc)
  dec := decS
  sz := 1
  len := fun _ => rfl
  dec_enc := fun l => by simp [decS, decL_enc Cod.dec_enc]
  le := fun v l h => by
    unfold decS at h
    split at h
    · rename_i s es
      split at h
      · rename_i hs
        refine .one rfl rfl fun I w u hr => ?_
        obtain ⟨h1, h2⟩ := decL_get h
        cases hr with
        | nilslice =>
          have : l = [] := by
            cases l with
            | nil => rfl
            | cons => simp at h1
          subst this
          exact .nilslice _ _ _ _
        | slice _ _ _ g o cap f hcap hsz hc hh =>
          rcases hs with rfl | rfl
          · rw [h1, show l.length = (l.map (Cod.enc (α := α))).length by simp]
            refine .slice _ _ _ g o cap f (by simpa [← h1] using hcap) (fun e he => ?_) (fun i j hi hj => hc i j (by simpa [h1] using hi) hj) fun i j e c he hj => ?_
            · simp at he
              obtain ⟨a, _, rfl⟩ := he
              exact Cod.len a
            · simp at he
              obtain ⟨a, ha, rfl⟩ := he
              have hi : i < es.length := by rw [h1]; exact (List.getElem?_eq_some_iff.1 ha).1
              have hd := h2 i es[i] a (by simp) ha
              have hle := (Cod.le _ _ hd).cells
              have hj' : j < es[i].cells.length := by rw [hle.1]; exact (List.getElem?_eq_some_iff.1 hj).1
              exact hle.2 j es[i].cells[j] c (by simp) hj I w _ (hh i j es[i] es[i].cells[j] (by simp) (by simp))
          · have : l = [] := by
              cases l with
              | nil => rfl
              | cons => simp at h1
            subst this
            exact .nilslice _ _ _ _
      · cases h
    · cases h
      refine .one rfl rfl fun I w u hr => ?_
      cases hr
      exact .nilslice _ _ _ _
    · cases h
      refine .one rfl rfl fun I w u hr => ?_
      cases hr
      exact .nilslice _ _ _ _
    · cases h
@[go_sem ↓] theorem enc_list {α : Type} [Cod α] (l : List α) : Cod.enc l = .slice (Cod.sz α) (l.map Cod.enc) := nd rfl
@[go_sem] theorem dec_list {α : Type} [Cod α] (l : List α) : (Cod.dec (.slice (Cod.sz α) (l.map Cod.enc)) : Option (List α)) = some l := Cod.dec_enc l
@[go_sem] theorem dec_slice {α : Type} [Cod α] {s : Nat} (h : Cod.sz α = s) (es : List V) : (Cod.dec (.slice s es) : Option (List α)) = decL Cod.dec es := by show decS _ = _; simp [decS, h]
@[go_sem ↓] theorem dec_nil {α : Type} [Cod α] (s : Nat) : (Cod.dec (.slice s []) : Option (List α)) = some [] := by show decS _ = _; simp [decS, decL]
@[go_sem ↓] theorem dec_mt {α : Type} [Cod α] : (Cod.dec .mt : Option (List α)) = some [] := nd rfl
@[go_sem ↓] theorem dec_nilc {α : Type} [Cod α] : (Cod.dec (.sc (.slice none 0 0)) : Option (List α)) = some [] := nd rfl
@[go_sem ↓] theorem decL_nil' {α : Type} (dec : V → Option α) : decL dec [] = some [] := nd rfl
@[go_sem] theorem decL_map {α : Type} [Cod α] (l : List α) : decL Cod.dec (l.map Cod.enc) = some l := decL_enc Cod.dec_enc l
@[go_sem ↓] theorem decL_cons' {α : Type} (dec : V → Option α) (v : V) (vs : List V) : decL dec (v :: vs) = consO (dec v) (decL dec vs) := by
  simp only [decL]
  cases dec v <;> cases decL dec vs <;> rfl
@[go_sem ↓] theorem sz_int : Cod.sz Int = 1 := nd rfl
@[go_sem ↓] theorem sz_bool : Cod.sz Bool = 1 := nd rfl
@[go_sem ↓] theorem sz_str : Cod.sz ByteArray = 1 := nd rfl
@[go_sem ↓] theorem sz_list (α : Type) [Cod α] : Cod.sz (List α) = 1 := nd rfl

def bO {α β : Type} (x : Option α) (f : α → Option β) : Option β := x.bind f
@[congr] theorem bO_congr {α β : Type} {x x' : Option α} {f : α → Option β} (h : x = x') : bO x f = bO x' f := by rw [h]
@[go_sem ↓] theorem bO_some {α β : Type} (a : α) (f : α → Option β) : bO (some a) f = f a := nd rfl
theorem bO_eq {α β : Type} {x : Option α} {f : α → Option β} {b : β} : bO x f = some b ↔ ∃ a, x = some a ∧ f a = some b := Option.bind_eq_some_iff
theorem LeL.app {a b c d : List V} (h1 : LeL a b) (h2 : LeL c d) : LeL (a ++ c) (b ++ d) := by
  refine ⟨by simp [h1.1, h2.1], fun j x u hx hu => ?_⟩
  by_cases hj : j < a.length
  · rw [List.getElem?_append_left hj] at hx
    rw [List.getElem?_append_left (by rw [← h1.1]; exact hj)] at hu
    exact h1.2 j x u hx hu
  · rw [List.getElem?_append_right (by omega)] at hx
    rw [List.getElem?_append_right (by rw [← h1.1]; omega)] at hu
    rw [← h1.1] at hu
    exact h2.2 _ x u hx hu

def okI (a : Int) : Prop := -9223372036854775808 ≤ a ∧ a ≤ 9223372036854775807
def okS (a : ByteArray) : Prop := a.size ≤ 9223372036854775807
def okL {α : Type} (ok : α → Prop) (l : List α) : Prop := l.length ≤ 9223372036854775807 ∧ ∀ a ∈ l, ok a

/-! ### Arguments -/
class CodA (τ : Type) where
  encA : τ → List V
  decA : List V → Option τ
  ar : Nat
  leA : ∀ vs t, decA vs = some t → LeL vs (encA t)
  arA : ∀ t, (encA t).length = ar
instance : CodA Unit where
  encA := fun _ => []
  decA := fun | [] => some () | _ => none
  ar := 0
  leA := fun vs t h => by
    split at h
    · exact .nil
    · cases h
  arA := fun _ => rfl
def decA2 {α τ : Type} [Cod α] [CodA τ] : List V → Option (α × τ)
  | v :: vs => dec2 (Cod.dec v) (CodA.decA vs)
  | _ => none
instance (α τ : Type) [Cod α] [CodA τ] : CodA (α × τ) where
  encA := fun p => Cod.enc p.1 :: CodA.encA p.2
  decA := decA2
  ar := CodA.ar τ + 1
  leA := fun vs p h => by
    unfold decA2 at h
    split at h
    · rename_i v vs
      cases hx : (Cod.dec v : Option α) with
      | none => simp [hx, dec2] at h
      | some a =>
        cases hy : (CodA.decA vs : Option τ) with
        | none => simp [hx, hy, dec2] at h
        | some b =>
          rw [hx, hy] at h
          cases h
          exact .cons (Cod.le _ _ hx).le (CodA.leA _ _ hy)
    · cases h
  arA := fun p => by simp [CodA.arA]
@[go_sem ↓] theorem encA_unit (u : Unit) : CodA.encA u = [] := nd rfl
@[go_sem ↓] theorem encA_cons {α τ : Type} [Cod α] [CodA τ] (a : α) (t : τ) : CodA.encA (a, t) = Cod.enc a :: CodA.encA t := nd rfl
@[go_sem ↓] theorem decA_unit : (CodA.decA [] : Option Unit) = some () := nd rfl
@[go_sem ↓] theorem decA_cons {α τ : Type} [Cod α] [CodA τ] (v : V) (vs : List V) : (CodA.decA (v :: vs) : Option (α × τ)) = dec2 (Cod.dec v) (CodA.decA vs) := nd rfl

/-- A contract from data to data. -/
def FTc {γ : Type} [CodR γ] : Option γ → Option V
  | some r => some (CodR.encR r)
  | none => none
def FTb {τ γ : Type} [CodR γ] (g : τ → Option γ) : Option τ → Option V
  | some t => FTc (g t)
  | none => none
def FT {τ γ : Type} [CodA τ] [CodR γ] (g : τ → Option γ) (xs : List V) : Option V := FTb g (CodA.decA xs)
@[go_sem ↓] theorem FT_at {τ γ : Type} [CodA τ] [CodR γ] (g : τ → Option γ) (xs : List V) : FT g xs = FTb g (CodA.decA xs) := nd rfl
@[go_sem ↓] theorem FTb_some {τ γ : Type} [CodR γ] (g : τ → Option γ) (t : τ) : FTb g (some t) = FTc (g t) := nd rfl
@[go_sem ↓] theorem FTc_some {γ : Type} [CodR γ] (r : γ) : FTc (some r) = some (CodR.encR r) := nd rfl
@[congr] theorem FTb_congr {τ γ : Type} [CodR γ] {g : τ → Option γ} {x x' : Option τ} (h : x = x') : FTb g x = FTb g x' := by rw [h]

/-- How a body may end. -/
def endT {γ : Type} [CodR γ] (r : γ) : Option V → Prop
  | some v => CodR.decR v = some r
  | none => False
@[go_sem ↓] theorem endT_some {γ : Type} [CodR γ] (r : γ) (v : V) : endT r (some v) = (CodR.decR v = some r) := nd rfl
@[congr] theorem endT_congr {γ : Type} [CodR γ] {r : γ} {x x' : Option V} (h : x = x') : endT r x = endT r x' := by rw [h]
def endsT {γ : Type} [CodR γ] (P : Program) (rs : List ResultVar) (r : γ) : Exit → SF → Prop
  | .normal, s => endT r (resF P rs s)
  | .ret, s => endT r (resF P rs s)
  | _, _ => False
section
variable {P : Program} {Φ : Specs} {γ : Type} [CodR γ]
@[go_sem ↓] theorem endsT_normal (rs : List ResultVar) (r : γ) (s : SF) : endsT P rs r .normal s = endT r (resF P rs s) := nd rfl
@[go_sem ↓] theorem endsT_ret (rs : List ResultVar) (r : γ) (s : SF) : endsT P rs r .ret s = endT r (resF P rs s) := nd rfl

/-- A function that is called from anywhere: no frame of ours waits. -/
structure Top where
  I0 : Imm
  w0 : World
def Top.ctx (T : Top) : Ctx := ⟨T.I0, T.w0, []⟩

/-- A FUNCTION's CONTRACT over data, by the walk over its short form. -/
theorem conT (hg : Good P Φ) (K : List Nat) {f : FuncId} {nt : Nat} {rs : List ResultVar} {ic : IC} (hf : factsI P f = some (nt, rs, ic)) {τ : Type} [CodA τ] {g : τ → Option γ} (hn : CodA.ar τ ≤ nt)
    (h : ∀ (C : Top) t r, g t = some r → walkI P Φ C.ctx nt K ic ⟨pars (CodA.encA t), fun _ => .unborn, 0⟩ (contI P Φ C.ctx nt K (endsT P rs r) [])) : Contract P f (FT g) := by
  unfold factsI at hf
  split at hf
  · split at hf
    · rename_i fn hfn
      split at hf
      · rename_i c hc
        split at hf
        · rename_i hok
          simp only [Option.map_eq_some_iff, Prod.mk.injEq] at hf
          obtain ⟨ic', hic, rfl, rfl, rfl⟩ := hf
          intro I w args xs r hlen hrep hI hF
          cases hd : (CodA.decA xs : Option τ) with
          | none => simp [FT, FTb, hd] at hF
          | some t =>
            cases hgt : g t with
            | none => simp [FT, FTb, hd, FTc, hgt] at hF
            | some b =>
              simp only [FT, FTb, hd, FTc, hgt, Option.some.injEq] at hF
              subst hF
              have hle := CodA.leA _ _ hd
              have hlen' : (CodA.encA t).length = args.size := by rw [← hle.1, hlen]
              have hrep' : ∀ (j : Nat) (x : V) (u : Value), (CodA.encA t)[j]? = some x → args[j]? = some u → Rep I w noPlaces x u := fun j x u hx hu => by
                have hj : j < xs.length := by rw [hle.1]; exact (List.getElem?_eq_some_iff.1 hx).1
                exact hle.2 j xs[j] x (by simp) hx I w u (hrep j xs[j] u (by simp) hu)
              refine calls_of_wp hfn hc ?_
              have hsz : args.size ≤ fn.ntmps := by rw [← hlen', CodA.arA]; exact hn
              refine wp_mono (walkI_sound hg c ic' _ _ hic (h ⟨I, w⟩ t b hgt) hok _ w (by simp; omega) rfl (start_simF (C := Top.ctx ⟨I, w⟩) hlen' hrep' hI rfl)) ?_
              rintro e a' w' ⟨_, hd, s', hres, γ', I', hS⟩
              have hq : (e = .normal ∨ e = .ret) ∧ ∃ v, resF P fn.results.toList s' = some v ∧ CodR.decR v = some b := by
                simp only [contI_nil] at hres
                cases e with
                | normal =>
                  rw [endsT_normal] at hres
                  cases hv : resF P fn.results.toList s' with
                  | none => rw [hv] at hres; exact hres.elim
                  | some v => rw [hv] at hres; exact ⟨.inl rfl, v, rfl, hres⟩
                | ret =>
                  rw [endsT_ret] at hres
                  cases hv : resF P fn.results.toList s' with
                  | none => rw [hv] at hres; exact hres.elim
                  | some v => rw [hv] at hres; exact ⟨.inr rfl, v, rfl, hres⟩
                | _ => exact hres.elim
              obtain ⟨he, v, hv, hdv⟩ := hq
              obtain ⟨u, I2, hrun, hr, hI2⟩ := resG_run (fn := fn) hS hv
              have hpost : ∃ v, (results fn a'.tmps).run P w' = .ok v w' ∧ ∃ u, (Ending.returned v) = .returned u ∧ Below w.heap.size w w' ∧ Rep (fun g x => I g x ∨ (w.heap.size ≤ g ∧ g < w'.heap.size)) w' noPlaces (CodR.encR b) u :=
                ⟨u, hrun, u, rfl, hS.below, CodR.leR _ _ hdv _ _ _ (hr.mono (Pres.refl _ _) hI2 fun _ _ h => h)⟩
              rcases he with rfl | rfl
              · exact ⟨hd, hpost⟩
              · exact ⟨hd, hpost⟩
        · cases hf
      · cases hf
    · cases hf
  · cases hf
end

end Go.Idl
