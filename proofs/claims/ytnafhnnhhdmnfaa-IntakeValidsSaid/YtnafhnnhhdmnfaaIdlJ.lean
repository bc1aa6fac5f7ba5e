/-
  What the evaluator says of an operation holds in the model: append.
-/
import Derived.Test.YtnafhnnhhdmnfaaIdlI
import Derived.Laws.Append
import Derived.Laws.AppendOwn
namespace Go.Idl
set_option linter.all false
open Go.RowKit

variable {P : Program} {C : Ctx} {γ : Places} {I : Imm} {τ : Nat → V} {H : Heap} {w : World} {a : Act} {o : Oper} {v : V} {tm : Array Value}

/-- What is appended, in the model: so many elements, their cells in a row. -/
structure Src (P : Program) (I : Imm) (w : World) (γ : Places) (sz : Nat) (ys : List V) (x : Value) (nl : List Value) : Prop where
  len : nl.length = ys.length * sz
  cell : ∀ (i j : Nat) (e c : V), ys[i]? = some e → e.cells[j]? = some c → ∃ u, nl[i * sz + j]? = some u ∧ Rep I w γ c u
  count : ∀ w', (Builtin.lenOf x).run P w' = .ok ys.length w'
  first : ∀ w', (∀ p, w'.cell? p = w.cell? p) → (Builtin.firstCells sz ys.length x).run P w' = .ok nl.toArray w'

theorem src_empty {sz : Nat} (A : Option Addr) (cap : Nat) : Src P I w γ sz [] (.slice A 0 cap) [] where
  len := by simp
  cell := by simp
  count := fun w' => by simp [Builtin.lenOf]
  first := fun w' _ => by
    cases A with
    | none => simp [Builtin.firstCells]
    | some ad => simp [Builtin.firstCells, loadCells, loadCellsFrom]

theorem src_row {sz : Nat} {ys : List V} {g b cap : Nat} {f : Nat → Value} (hc : ∀ k, k < ys.length * sz → w.cell? ⟨g, b + k, none⟩ = some (f k))
    (hr : ∀ (i j : Nat) (e c : V), ys[i]? = some e → e.cells[j]? = some c → j < sz ∧ Rep I w γ c (f (i * sz + j))) :
    Src P I w γ sz ys (.slice (some ⟨g, b, none⟩) ys.length cap) ((List.range (ys.length * sz)).map f) where
  len := by simp
  cell := fun i j e c he hcc => by
    obtain ⟨hj, hrr⟩ := hr i j e c he hcc
    have hi : i < ys.length := (List.getElem?_eq_some_iff.1 he).1
    have hlt : i * sz + j < ys.length * sz := by
      have h2 := Nat.mul_le_mul_right sz (show i + 1 ≤ ys.length from hi)
      rw [Nat.add_mul] at h2
      omega
    exact ⟨f (i * sz + j), by simp [hlt], hrr⟩
  count := fun w' => by simp [Builtin.lenOf]
  first := fun w' hw => by
    have := run_loadCells (P := P) w' ⟨g, b, none⟩ (ys.length * sz) f (fun j hj => by rw [addr_add, hw]; exact hc j hj)
    simp [Builtin.firstCells, this]

theorem src_rep (hS : Sim C γ I τ H tm w) {sz : Nat} (hsz : 0 < sz) {ids : List Nat} {x : V} {u : Value} {ys : List V} (hn : news (only ids H) sz x = some ys) (hr : Rep I w γ x u)
    (hlen : ys.all (fun y => y.cells.length = sz) = true) : ∃ nl, Src P I w γ sz ys u nl := by
  rw [List.all_eq_true] at hlen
  have div : ∀ k m, k < m * sz → k / sz < m ∧ k % sz < sz ∧ k / sz * sz + k % sz = k := fun k m hk =>
    ⟨(Nat.div_lt_iff_lt_mul hsz).2 hk, Nat.mod_lt _ hsz, by rw [Nat.mul_comm]; exact Nat.div_add_mod k sz⟩
  cases x with
  | sc y =>
    have := hr.sc_eq
    subst this
    simp only [news] at hn
    split at hn
    · rename_i y' s hy
      cases hy
      split at hn
      · rename_i h1
        subst h1
        cases hn
        refine ⟨s.data.toList.map fun b => .int .u8 b.toNat, ?_, ?_, ?_, ?_⟩
        · simp
        · intro i j e c he hc
          simp at he
          obtain ⟨b, hb, rfl⟩ := he
          cases j with
          | zero => simp [V.cells] at hc; subst hc; exact ⟨.int .u8 b.toNat, by simp [hb], .sc _ _⟩
          | succ j => simp [V.cells] at hc
        · intro w'
          simp [Builtin.lenOf]
        · intro w' _
          have e : s.extract 0 s.size = s := by
            apply ByteArray.ext
            simp
          have hl : (List.map (fun b : UInt8 => V.sc (.int .u8 b.toNat)) s.data.toList).length = s.size := by simp
          rw [hl]
          simp only [Builtin.firstCells, e, Sem.run_pure]
          congr 1
          apply Array.ext'
          simp
      · cases hn
    · rename_i hns
      simp only [V.elems] at hn
      split at hn
      all_goals first | (rename_i hh; cases hh; done) | skip
      · rename_i hh
        cases hh
        cases hn
        exact ⟨[], src_empty none 0⟩
      · cases hn
  | slice s es =>
    simp only [news, V.elems] at hn
    split at hn
    · rename_i hs
      cases hn
      cases hr with
      | nilslice => exact ⟨[], src_empty _ _⟩
      | slice _ _ _ g b cap f hcap hsz' hc hh =>
        rcases hs with rfl | rfl
        · refine ⟨_, src_row (f := fun k => f (k / s) (k % s)) (fun k hk => ?_) (fun i j e c he hcc => ?_)⟩
          · obtain ⟨h1, h2, h3⟩ := div k _ hk
            have := (hc _ _ h1 h2).2
            rw [Nat.add_assoc, h3] at this
            exact this
          · have hj : j < s := by
              have := (List.getElem?_eq_some_iff.1 hcc).1
              rw [hsz' e (List.mem_of_getElem? he)] at this
              exact this
            have e1 : (i * s + j) / s = i := by rw [Nat.mul_comm, Nat.mul_add_div hsz, Nat.div_eq_of_lt hj]; omega
            have e2 : (i * s + j) % s = j := by rw [Nat.mul_comm, Nat.mul_add_mod, Nat.mod_eq_of_lt hj]
            refine ⟨hj, ?_⟩
            simp only [e1, e2]
            exact (hh i j e c he hcc).mono (Pres.refl _ _) (fun _ _ h => h) (by simp [noPlaces])
        · exact ⟨[], src_empty _ _⟩
    · cases hn
  | own id off len =>
    simp only [news, V.elems] at hn
    split at hn
    · rename_i s es mu hl0
      split at hn
      · rename_i hc
        obtain ⟨rfl, hle⟩ := hc
        cases hn
        cases hr with
        | own0 => simp; exact ⟨[], src_empty _ _⟩
        | own _ _ _ _ cap p c t hp hcap hb hroom =>
          rcases hS.obj id s es mu (only_live hl0) with ⟨_, hg⟩ | ⟨q, c', t', ho'⟩
          · rw [hg] at hp; cases hp
          · rw [ho'.place] at hp
            cases hp
            have hl2 : ((es.drop off).take len).length = len := by simp; omega
            have key := src_row (P := P) (I := I) (w := w) (γ := γ) (sz := s) (ys := (es.drop off).take len) (g := p.blk) (b := p.off + off * p.sz) (cap := cap)
              (f := fun k => (c'[p.off + off * s + k]?).getD undef) (fun k hk => by
                rw [hl2] at hk
                obtain ⟨h1, h2, h3⟩ := div k _ hk
                have hio : off + k / s < es.length := by omega
                have hjl : k % s < (es[off + k / s]).cells.length := by rw [ho'.len _ (List.getElem_mem hio)]; exact h2
                obtain ⟨y, hy, _⟩ := ho'.cell _ _ _ _ (List.getElem?_eq_getElem hio) (List.getElem?_eq_getElem hjl)
                have e : p.off + (off + k / s) * s + k % s = p.off + off * s + k := by rw [Nat.add_mul]; omega
                rw [e] at hy
                rw [ho'.size, cell_blk ho'.blk, hy]
                rfl)
              (fun i j e x he hx => by
                rw [List.getElem?_take] at he
                split at he
                · rw [List.getElem?_drop] at he
                  have hj : j < s := by
                    have := (List.getElem?_eq_some_iff.1 hx).1
                    rw [ho'.len e (List.mem_of_getElem? he)] at this
                    exact this
                  obtain ⟨y, hy, hrr⟩ := ho'.cell _ _ _ _ he hx
                  have e2 : p.off + (off + i) * s + j = p.off + off * s + (i * s + j) := by rw [Nat.add_mul]; omega
                  rw [e2] at hy
                  refine ⟨hj, ?_⟩
                  simp only [hy, Option.getD_some]
                  exact hrr
                · cases he)
            rw [hl2] at key
            exact ⟨_, key⟩
      · cases hn
    · cases hn
  | mt =>
    simp [news, V.elems] at hn
    subst hn
    cases hr
    exact ⟨[], src_empty _ _⟩
  | _ => simp [news, V.elems] at hn


theorem Src.one {sz : Nat} {ys : List V} {x : Value} {nl : List Value} (hs : Src P I w γ sz ys x nl) (hsz : 0 < sz) (hlen : ∀ y ∈ ys, y.cells.length = sz) (hf : ys.all V.isF = true) :
    ∀ u ∈ nl, u.oneCell' = true := by
  intro u hu
  rw [List.all_eq_true] at hf
  obtain ⟨k, hk⟩ := List.getElem?_of_mem hu
  have hkl : k < ys.length * sz := by
    have := (List.getElem?_eq_some_iff.1 hk).1
    rw [hs.len] at this
    exact this
  have h1 : k / sz < ys.length := (Nat.div_lt_iff_lt_mul hsz).2 hkl
  have h2 : k % sz < sz := Nat.mod_lt _ hsz
  have h3 : k / sz * sz + k % sz = k := by rw [Nat.mul_comm]; exact Nat.div_add_mod k sz
  have hjl : k % sz < (ys[k / sz]).cells.length := by rw [hlen _ (List.getElem_mem h1)]; exact h2
  obtain ⟨u', hu', hr⟩ := hs.cell _ _ _ _ (List.getElem?_eq_getElem h1) (List.getElem?_eq_getElem hjl)
  rw [h3, hk] at hu'
  cases hu'
  have hfc := isF_cell (hf _ (List.getElem_mem h1)) (List.getElem?_eq_getElem hjl)
  generalize (ys[k / sz]).cells[k % sz] = c at hr hfc
  cases hr <;> first | exact hfc | rfl | (simp [V.isFc] at hfc; done)

section
variable {t t' et : TypeId} {i : TypeInfo} {z : Value}

/-- Not the zeros of a make. -/
theorem run_srcType (ht : t' = t ∨ strT P t' = true) (hu : P.underlying t = some (.slice et)) (w : World) : ∃ d, (underlying t').run P w = .ok d w ∧ (d = .slice et ∨ d = .string) := by
  rcases ht with rfl | ht
  · exact ⟨_, run_underlying hu w, .inl rfl⟩
  · unfold strT at ht
    split at ht
    · rename_i hs; exact ⟨_, run_underlying hs w, .inr rfl⟩
    · cases ht

theorem run_append_in (ht : t' = t ∨ strT P t' = true) (hu : P.underlying t = some (.slice et)) (hi : P.info? et = some i) {ys : List V} {x : Value} {nl : List Value} (hs : Src P I w γ i.size ys x nl)
    {A : Option Addr} {sLen sCap : Nat} (hroom : sLen + ys.length ≤ sCap) (ty : TypeId) :
    (Builtin.append_ #[t, t'] ty #[.slice A sLen sCap, x]).run P w =
      ((match A with | some ad => storeCells (ad.add (sLen * i.size)) nl | none => pure () : Sem Unit).run P w).andThen fun _ w' => .ok (.slice A (sLen + ys.length) sCap) w' := by
  obtain ⟨d, hd, hm⟩ := run_srcType ht hu w
  have h1 := hs.count w
  have h2 := hs.first w (fun _ => rfl)
  cases A with
  | none => rcases hm with rfl | rfl <;> simp [Builtin.append_, run_underlying hu, sizeOf, typeInfo, hi, hd, h1, h2, hroom]
  | some ad => rcases hm with rfl | rfl <;> simp [Builtin.append_, run_underlying hu, sizeOf, typeInfo, hi, hd, h1, h2, hroom]

theorem run_append_out (ht : t' = t ∨ strT P t' = true) (hu : P.underlying t = some (.slice et)) (hi : P.info? et = some i) (hz : i.zero = some z) {ys : List V} {x : Value} {nl : List Value} (hs : Src P I w γ i.size ys x nl)
    {A : Option Addr} {sLen sCap : Nat} {olds : List Value} (hold : ∀ w', (∀ p, w'.cell? p = w.cell? p) → (Builtin.firstCells i.size sLen (.slice A sLen sCap)).run P w' = .ok olds.toArray w')
    (hroom : sCap < sLen + ys.length) (h63 : sLen + ys.length ≤ 4294967296) (hby : (sLen + ys.length) * i.bytes ≤ 68719476736) (ty : TypeId) :
    (Builtin.append_ #[t, t'] ty #[.slice A sLen sCap, x]).run P w =
      .ok (.slice (some ⟨w.heap.size, 0, none⟩) (sLen + ys.length) (grownCap w (sLen + ys.length) sCap et))
        (w.drew.alloc (.cells (olds.toArray ++ nl.toArray ++ Builtin.zeroCells z.cells (grownCap w (sLen + ys.length) sCap et - (sLen + ys.length))) et)) := by
  obtain ⟨d, hd, hm⟩ := run_srcType ht hu w
  have h1 := hs.count w
  have h2 := hs.first w.drew (fun _ => rfl)
  have h3 := hold w.drew (fun _ => rfl)
  have hn : ¬ (sLen + ys.length ≤ sCap) := by omega
  have h63' : ¬ (9223372036854775807 < ((sLen : Int) + (ys.length : Int))) := by omega
  have h48' : ¬ (281474976710656 < Builtin.nextslicecap (sLen + ys.length) sCap * i.bytes) := by
    have := growslice_fits (need := sLen + ys.length) (old := sCap) (bytes := i.bytes) hroom (by omega)
    omega
  rcases hm with rfl | rfl <;>
    (simp [Builtin.append_, run_underlying hu, sizeOf, typeInfo, zeroValue, hi, hz, hd, h1, h2, h3, hn, h63', h48', Question.forced, newRow, grownCap]
     try (congr 2; apply Array.ext'; simp [List.append_assoc]))
end

theorem grownCap_ge (w : World) (need old : Nat) (e : TypeId) : need ≤ grownCap w need old e := by
  unfold grownCap
  simp [Question.cut]

end Go.Idl
