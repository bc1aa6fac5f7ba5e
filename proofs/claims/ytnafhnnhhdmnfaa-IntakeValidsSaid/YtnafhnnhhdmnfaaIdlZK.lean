/-
  Rules of the walk: slices that are made, cut and appended to.
-/
import Derived.Test.YtnafhnnhhdmnfaaIdlZJ
namespace Go.Idl
set_option linter.all false
open Go.RowKit

variable {P : Program} {Φ : Specs} (n : Nat) (τ : Nat → V) (H : Heap)

/-! ### Making -/
def mksI (n sz bytes : Nat) (z : V) : V → V → Obj → Option (V × List (Nat × Obj))
  | .sc (.int .i64 l), .sc (.int .i64 c), .unborn => if 0 ≤ l ∧ l ≤ c ∧ c ≤ 4294967296 ∧ bytes * c.toNat ≤ 281474976710656 then some (.own n 0 l.toNat, [(n, .live sz (List.replicate l.toNat z) true)]) else none
  | _, _, _ => none
@[congr] theorem mksI_congr {n sz bytes : Nat} {z l l' c c' : V} {o o' : Obj} (h1 : l = l') (h2 : c = c') (h3 : o = o') : mksI n sz bytes z l c o = mksI n sz bytes z l' c' o' := by rw [h1, h2, h3]
@[go_sem ↓] theorem ev_mks (sz bytes : Nat) (z : V) (l c : A) : evIO P Φ n τ H (.mks sz bytes z l c) = mksI n sz bytes z (l.get τ) (c.get τ) (H n) := by
  simp only [evIO]
  generalize l.get τ = vl
  generalize c.get τ = vc
  generalize H n = ob
  cases ob <;> cases vl with
  | sc u => cases u with
    | int k a => cases k <;> cases vc with
      | sc u' => cases u' with
        | int k' a' => cases k' <;> rfl
        | _ => rfl
      | _ => rfl
    | _ => cases vc <;> rfl
  | _ => cases vc <;> rfl
@[go_sem ↓] theorem mksI_at (sz bytes : Nat) (z : V) (l c : Int) : mksI n sz bytes z (.sc (.int .i64 l)) (.sc (.int .i64 c)) .unborn = if 0 ≤ l ∧ l ≤ c ∧ c ≤ 4294967296 ∧ bytes * c.toNat ≤ 281474976710656 then some (.own n 0 l.toNat, [(n, .live sz (List.replicate l.toNat z) true)]) else none := nd rfl

/-! ### What a slice holds -/
def elemsO (sz off len : Nat) : Obj → Option (List V)
  | .live s es _ => if s = sz ∧ off + len ≤ es.length then some ((es.drop off).take len) else none
  | _ => none
@[go_sem ↓] theorem news_slice (sz s : Nat) (es : List V) : news H sz (.slice s es) = if s = sz ∨ es = [] then some es else none := nd rfl
@[go_sem ↓] theorem news_own (sz id off len : Nat) : news H sz (.own id off len) = elemsO sz off len (H id) := by
  simp only [news, V.elems]
  generalize H id = ob
  cases ob <;> rfl
@[go_sem ↓] theorem elemsO_live (sz off len s : Nat) (es : List V) (mu : Bool) : elemsO sz off len (.live s es mu) = if s = sz ∧ off + len ≤ es.length then some ((es.drop off).take len) else none := nd rfl
@[go_sem ↓] theorem news_mt (sz : Nat) : news H sz .mt = some [] := nd rfl
@[go_sem ↓] theorem news_nil (sz : Nat) : news H sz (.sc (.slice none 0 0)) = some [] := nd rfl
@[go_sem ↓] theorem news_str (sz : Nat) (s : ByteArray) : news H sz (.sc (.string s)) = if sz = 1 then some (s.data.toList.map fun b => .sc (.int .u8 b.toNat)) else none := nd rfl

/-! ### Appending -/
def appO (n sz bytes : Nat) (ys : List V) (id off len : Nat) : Obj → Option (V × List (Nat × Obj))
  | .live s es mu => if s = sz ∧ off + len = es.length ∧ (len + ys.length) * bytes ≤ 68719476736 ∧ len + ys.length ≤ 4294967296 ∧ ys.all (okE sz) = true then some (.own n 0 (len + ys.length), [(id, .dead), (n, .live sz (es.drop off ++ ys) mu)]) else none
  | _ => none
def appI (H : Heap) (n sz bytes : Nat) : Option (List V) → V → Obj → Option (V × List (Nat × Obj))
  | some ys, .own id off len, .unborn => appO n sz bytes ys id off len (H id)
  | some ys, .mt, .unborn => if ys.length * bytes ≤ 68719476736 ∧ ys.length ≤ 4294967296 ∧ ys.all (okE sz) = true then some (.own n 0 ys.length, [(n, .live sz ys true)]) else none
  | some ys, .sc (.slice none 0 0), .unborn => if ys.length * bytes ≤ 68719476736 ∧ ys.length ≤ 4294967296 ∧ ys.all (okE sz) = true then some (.own n 0 ys.length, [(n, .live sz ys true)]) else none
  | _, _, _ => none
@[congr] theorem appI_congr {H : Heap} {n sz bytes : Nat} {ys ys' : Option (List V)} {x x' : V} {o o' : Obj} (h1 : ys = ys') (h2 : x = x') (h3 : o = o') : appI H n sz bytes ys x o = appI H n sz bytes ys' x' o' := by rw [h1, h2, h3]
@[go_sem ↓] theorem ev_app (sz bytes : Nat) (x y : A) : evIO P Φ n τ H (.app sz bytes x y) = appI H n sz bytes (news H sz (y.get τ)) (x.get τ) (H n) := by
  simp only [evIO]
  generalize news H sz (y.get τ) = ys
  generalize x.get τ = vx
  generalize H n = ob
  cases ob <;> cases ys with
  | none => cases vx with
    | sc u => cases u <;> rfl
    | _ => rfl
  | some ys => cases vx with
    | own id off len =>
      first | rfl | (simp only [appI, Option.bind_some]; generalize H id = ob2; cases ob2 <;> rfl)
    | sc u => cases u with
      | slice a b c => cases a <;> cases b <;> cases c <;> rfl
      | _ => rfl
    | _ => rfl
@[go_sem ↓] theorem appI_own (sz bytes : Nat) (ys : List V) (id off len : Nat) : appI H n sz bytes (some ys) (.own id off len) .unborn = appO n sz bytes ys id off len (H id) := nd rfl
@[go_sem ↓] theorem appO_live (sz bytes : Nat) (ys : List V) (id off len s : Nat) (es : List V) (mu : Bool) : appO n sz bytes ys id off len (.live s es mu) = if s = sz ∧ off + len = es.length ∧ (len + ys.length) * bytes ≤ 68719476736 ∧ len + ys.length ≤ 4294967296 ∧ ys.all (okE sz) = true then some (.own n 0 (len + ys.length), [(id, .dead), (n, .live sz (es.drop off ++ ys) mu)]) else none := nd rfl
@[go_sem ↓] theorem appI_mt (sz bytes : Nat) (ys : List V) : appI H n sz bytes (some ys) .mt .unborn = if ys.length * bytes ≤ 68719476736 ∧ ys.length ≤ 4294967296 ∧ ys.all (okE sz) = true then some (.own n 0 ys.length, [(n, .live sz ys true)]) else none := nd rfl
@[go_sem ↓] theorem appI_nil (sz bytes : Nat) (ys : List V) : appI H n sz bytes (some ys) (.sc (.slice none 0 0)) .unborn = if ys.length * bytes ≤ 68719476736 ∧ ys.length ≤ 4294967296 ∧ ys.all (okE sz) = true then some (.own n 0 ys.length, [(n, .live sz ys true)]) else none := nd rfl

/-! ### Cutting -/
@[go_sem ↓] theorem bound_none (d : Nat) : bound d none = some d := nd rfl
@[go_sem ↓] theorem bound_int (d : Nat) (k : IntKind) (j : Int) : bound d (some (.sc (.int k j))) = if 0 ≤ j then some j.toNat else none := nd rfl
def slI (e : Option (V × List (Nat × Obj))) (H : Heap) (sz : Nat) (lo hi mx : Option V) : V → Option (V × List (Nat × Obj))
  | .sc (.string _) => e
  | v => evSliceI H sz v lo hi mx
@[congr] theorem slI_congr {e : Option (V × List (Nat × Obj))} {H : Heap} {sz : Nat} {lo lo' hi hi' mx mx' : Option V} {x x' : V} (h1 : lo = lo') (h2 : hi = hi') (h3 : mx = mx') (h4 : x = x') : slI e H sz lo hi mx x = slI e H sz lo' hi' mx' x' := by rw [h1, h2, h3, h4]
@[go_sem ↓] theorem ev_sl (sz : Nat) (x : A) (lo hi mx : Option A) (o : Oper) : evIO P Φ n τ H (.sl sz x lo hi mx o) = slI (evPure P (opd τ) o) H sz (lo.map (A.get τ)) (hi.map (A.get τ)) (mx.map (A.get τ)) (x.get τ) := by
  simp only [evIO]
  generalize x.get τ = vx
  cases vx with
  | sc u => cases u <;> rfl
  | _ => rfl
def sl0 (sz s : Nat) (es : List V) : Option Nat → Option Nat → Option (V × List (Nat × Obj))
  | some l, some r => if l ≤ r ∧ r ≤ es.length ∧ s = sz then some (.slice sz ((es.take r).drop l), []) else none
  | _, _ => none
@[go_sem ↓] theorem slI_slice (e : Option (V × List (Nat × Obj))) (sz s : Nat) (es : List V) (lo hi : Option V) : slI e H sz lo hi none (.slice s es) = sl0 sz s es (bound 0 lo) (bound es.length hi) := by
  simp only [slI, evSliceI, V.len, Option.bind_some]
  cases bound 0 lo with
  | none => rfl
  | some l => cases bound es.length hi with
    | none => rfl
    | some r =>
      simp only [Option.bind_some, sl0, bound, Nat.le_refl, true_and]
      by_cases h1 : l ≤ r ∧ r ≤ es.length
      · by_cases h2 : s = sz <;> simp [h1, h2]
      · rw [if_neg h1, if_neg (fun h => h1 ⟨h.1, h.2.1⟩)]
@[go_sem ↓] theorem sl0_some (sz s : Nat) (es : List V) (l r : Nat) : sl0 sz s es (some l) (some r) = if l ≤ r ∧ r ≤ es.length ∧ s = sz then some (.slice sz ((es.take r).drop l), []) else none := nd rfl
@[congr] theorem sl0_congr {sz s : Nat} {es : List V} {l l' r r' : Option Nat} (h1 : l = l') (h2 : r = r') : sl0 sz s es l r = sl0 sz s es l' r' := by rw [h1, h2]
def slO (sz id off len : Nat) : Option Nat → Option Nat → Obj → Option (V × List (Nat × Obj))
  | some l, some r, .live s _ _ => if l ≤ r ∧ r ≤ len ∧ s = sz then some (.own id (off + l) (r - l), []) else none
  | _, _, _ => none
@[congr] theorem slO_congr {sz id off len : Nat} {l l' r r' : Option Nat} {o o' : Obj} (h1 : l = l') (h2 : r = r') (h3 : o = o') : slO sz id off len l r o = slO sz id off len l' r' o' := by rw [h1, h2, h3]
@[go_sem ↓] theorem slI_own (e : Option (V × List (Nat × Obj))) (sz id off len : Nat) (lo hi : Option V) : slI e H sz lo hi none (.own id off len) = slO sz id off len (bound 0 lo) (bound len hi) (H id) := by
  simp only [slI, evSliceI, V.len, Option.bind_some]
  generalize H id = ob
  cases bound 0 lo with
  | none => rfl
  | some l => cases bound len hi with
    | none => rfl
    | some r =>
      simp only [Option.bind_some, bound, Nat.le_refl, true_and]
      cases ob with
      | live s es mu =>
        simp only [slO]
        by_cases h1 : l ≤ r ∧ r ≤ len
        · by_cases h2 : s = sz <;> simp [h1, h2]
        · rw [if_neg h1, if_neg (fun h => h1 ⟨h.1, h.2.1⟩)]
      | _ => simp only [slO]; split <;> rfl
@[go_sem ↓] theorem slO_live (sz id off len l r s : Nat) (es : List V) (mu : Bool) : slO sz id off len (some l) (some r) (.live s es mu) = if l ≤ r ∧ r ≤ len ∧ s = sz then some (.own id (off + l) (r - l), []) else none := nd rfl
/-- With a third bound. -/
def slO4 (H : Heap) (sz id off len l r : Nat) : Obj → Option (V × List (Nat × Obj))
  | .live s es _ => if s = sz ∧ off + len ≤ es.length ∧ es.all V.isF = true then some (.slice sz ((es.drop (off + l)).take (r - l)), froze H [id]) else none
  | _ => none
@[go_sem ↓] theorem slO4_live (sz id off len l r s : Nat) (es : List V) (mu : Bool) : slO4 H sz id off len l r (.live s es mu) = if s = sz ∧ off + len ≤ es.length ∧ es.all V.isF = true then some (.slice sz ((es.drop (off + l)).take (r - l)), froze H [id]) else none := nd rfl
def slO3 (H : Heap) (sz id off len : Nat) (ob : Obj) : Option Nat → Option Nat → Option Nat → Option (V × List (Nat × Obj))
  | some l, some r, some m => if l ≤ r ∧ r ≤ m ∧ m ≤ len then (if l = m then some (.mt, []) else slO4 H sz id off len l r ob) else none
  | _, _, _ => none
@[congr] theorem slO3_congr {H : Heap} {sz id off len : Nat} {l l' r r' m m' : Option Nat} {o : Obj} (h1 : l = l') (h2 : r = r') (h3 : m = m') : slO3 H sz id off len o l r m = slO3 H sz id off len o l' r' m' := by rw [h1, h2, h3]
@[go_sem ↓] theorem slO3_some (sz id off len l r m : Nat) (ob : Obj) : slO3 H sz id off len ob (some l) (some r) (some m) = if l ≤ r ∧ r ≤ m ∧ m ≤ len then (if l = m then some (.mt, []) else slO4 H sz id off len l r ob) else none := nd rfl
@[go_sem ↓] theorem slI_own3 (e : Option (V × List (Nat × Obj))) (sz id off len : Nat) (lo : Option V) (hi mx : V) : slI e H sz lo (some hi) (some mx) (.own id off len) = slO3 H sz id off len (H id) (bound 0 lo) (bound len (some hi)) (bound 0 (some mx)) := by
  simp only [slI, evSliceI, V.len, Option.bind_some]
  have hb : ∀ d, bound d (some mx) = bound 0 (some mx) := fun d => by
    cases mx with
    | sc u => cases u <;> rfl
    | _ => rfl
  cases bound 0 lo with
  | none => rfl
  | some l => cases bound len (some hi) with
    | none => rfl
    | some r =>
      simp only [Option.bind_some, hb]
      cases bound 0 (some mx) with
      | none => rfl
      | some m =>
        simp only [Option.bind_some, slO3, Option.isNone_some, Bool.false_eq_true, if_false, V.isSl, if_true]
        split
        · split
          · rfl
          · generalize hob : H id = ob
            cases ob <;> rfl
        · rfl

end Go.Idl
