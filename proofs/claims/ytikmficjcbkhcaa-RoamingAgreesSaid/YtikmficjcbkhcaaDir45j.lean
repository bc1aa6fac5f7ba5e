/- Objects and directories compared. -/
import Derived.Test.YtikmficjcbkhcaaDir45g
namespace Go.Proofs.Ytikmficjcbkhcaa
set_option linter.all false
open Go.Idl Go.RowKit
set_option maxHeartbeats 4000000
set_option maxRecDepth 100000
attribute [local go_sem] agObj agDir agOK agSh Try.underlying3 Try.underlying5 Try.underlying9 Try.underlying4
theorem opT_bytesF {P : Program} {C : Ctx} {tb ts e : TypeId} {ty : Nat} (hb : P.underlying tb = some (.slice e)) (he : P.underlying e = some (.int .u8)) (hs : P.underlying ts = some .string) {τ : Nat → V} {H : Heap} {n k : Nat} {ys : List V} {ns : List Int} {K : V → SF → Prop}
    (hx : τ k = .slice 1 ys) (hv : bytV ys = some ns) (hk : K (.sc (.string (strOf ns))) ⟨τ, H, n⟩) : OpT P C (pu (.convert tb ts (.tmp k)) ty) ⟨τ, H, n⟩ K := by
  intro tm ds w γ I hS
  left
  have hr : Rep I w γ (.slice 1 ys) ((⟨tm, ds⟩ : Act).eval (.tmp k)) := by
    have := hS.opd ds (.tmp k)
    simp only [opd] at this
    rw [hx] at this
    exact this
  have hys := bytV_get hv
  obtain ⟨nl, hsrc⟩ := src_rep (P := P) hS (sz := 1) (by decide) (ids := []) (x := .slice 1 ys) (ys := ys) (by simp [news, V.elems]) hr (by rw [hys]; simp [V.cells])
  have hnl : nl = ns.map (Value.int .u8) := by
    apply List.ext_getElem?
    intro i
    have h1 := hsrc.len
    rw [Nat.mul_one] at h1
    have h2 : ys.length = ns.length := by rw [hys]; simp
    by_cases hi : i < ys.length
    · obtain ⟨n0, hn0⟩ : ∃ n0, ns[i]? = some n0 := ⟨ns[i]'(by omega), by simp⟩
      have hy0 : ys[i]? = some (.sc (.int .u8 n0)) := by rw [hys, List.getElem?_map, hn0]; rfl
      obtain ⟨u, hu, hru⟩ := hsrc.cell i 0 (.sc (.int .u8 n0)) (.sc (.int .u8 n0)) hy0 rfl
      have := hru.sc_eq
      subst this
      simp only [Nat.mul_one, Nat.add_zero] at hu
      rw [hu, List.getElem?_map, hn0]; rfl
    · rw [List.getElem?_eq_none (by omega), List.getElem?_eq_none (by simp; omega)]
  refine ⟨.string (strOf ns), w, .sc (.string (strOf ns)), ⟨τ, H, n⟩, γ, I, ?_, hk, hS, .sc _ _⟩
  have hf := hsrc.first w (fun _ => rfl)
  have hc := hsrc.count w
  generalize hu : (⟨tm, ds⟩ : Act).eval (.tmp k) = u at hr hsrc hf hc
  have key : (convert tb ts u).run P w = .ok (.string (strOf ns)) w := by
    cases hr with
    | slice _ _ _ g o cap f hcap hsz hc h =>
      rw [run_convert_bytes_string w tb ts e _ _ _ hb he hs]
      refine run_bytesToString w _ ys.length cap ns ?_
      rw [← hnl]
      simpa [Builtin.firstCells] using hf
    | nilslice _ _ A cap =>
      rw [run_convert_bytes_string w tb ts e _ _ _ hb he hs]
      have h0 : ns = [] := by
        have : ([] : List V).length = ns.length := by rw [hys]; simp
        exact List.eq_nil_of_length_eq_zero this.symm
      subst h0
      cases A with
      | none => simp [Conv.bytesToString, Sem.run_pure, strOf]
      | some a => exact run_bytesToString w a 0 cap [] (by simp [loadCells, loadCellsFrom, Sem.run_pure])
  simp only [pu, execOp, Act.eval] at hu ⊢
  simp only [hu, Sem.run_bind, key, Result.andThen, Sem.run_pure]
theorem stepI_bytesF {P : Program} {C : Ctx} {Φ : Specs} {Q : SF → Prop} {rest : List IOp} {d : Nat} {tb ts e : TypeId} {ty : Nat} (hb : P.underlying tb = some (.slice e)) (he : P.underlying e = some (.int .u8)) (hs : P.underlying ts = some .string) {τ : Nat → V} {H : Heap} {n k : Nat} {ys : List V} {ns : List Int} {E : Option (V × List (Nat × Idl.Obj))}
    (hx : τ k = .slice 1 ys) (hv : bytV ys = some ns) (hE : E = none) (h : seqI P Φ C Q rest ⟨updT τ d (.sc (.string (strOf ns))), H, n⟩) :
    stepI P Φ C Q rest (some d) (some (.pur (pu (.convert tb ts (.tmp k)) ty))) τ H n E := by
  subst hE
  exact opT_bytesF (P := P) (C := C) (K := fun v s' => seqI P Φ C Q rest ⟨updT τ d v, s'.H, s'.n⟩) hb he hs hx hv h
theorem conv_noneF {P : Program} {Φ : Specs} {d d' : Option TypeDesc} {t t' : TypeId} {ty : Nat} {τ : Nat → V} {H : Heap} {n k : Nat} {ys : List V} (hx : τ k = .slice 1 ys) : convI d d' (evStuck P Φ n τ H (.pur (pu (.convert t t' (.tmp k)) ty))) (.slice 1 ys) = none := by
  have : evStuck P Φ n τ H (.pur (pu (.convert t t' (.tmp k)) ty)) = none := by
    simp only [evStuck, evIO, evPure]
    rw [if_neg]
    simp [pu, Op.operands, opd, hx, V.conc]
  unfold convI
  split
  · rename_i h; cases h
  · exact this
theorem bytV_enc (a : List (KInt .u8)) : bytV (a.map Cod.enc) = some (a.map (·.1)) := by
  induction a with
  | nil => rfl
  | cons x a ih =>
    rw [List.map_cons]
    show (bytV (a.map Cod.enc)).map (x.1 :: ·) = _
    rw [ih]; rfl
theorem strOf_inj {a b : List (KInt .u8)} : strOf (a.map (·.1)) = strOf (b.map (·.1)) ↔ a.map (·.1) = b.map (·.1) := by
  have hd : ∀ (l : List Int) (r : ByteArray), (l.foldl (fun r n => r.push (UInt8.ofNat n.toNat)) r).data.toList = r.data.toList ++ l.map fun n => UInt8.ofNat n.toNat := by
    intro l
    induction l with
    | nil => intro r; simp
    | cons n l ih => intro r; rw [List.foldl_cons, ih]; simp [ByteArray.push]
  constructor
  · intro h
    have h1 := congrArg (fun s : ByteArray => s.data.toList) h
    simp only [strOf, hd] at h1
    simp only [show ByteArray.empty.data.toList = [] from rfl, List.nil_append, List.map_map] at h1
    have inj : ∀ x y : KInt .u8, UInt8.ofNat x.1.toNat = UInt8.ofNat y.1.toNat → x.1 = y.1 := by
      intro x y e
      have hx : (0 : Int) ≤ x.1 ∧ x.1 ≤ 255 := x.2
      have hy : (0 : Int) ≤ y.1 ∧ y.1 ≤ 255 := y.2
      have := congrArg UInt8.toNat e
      simp at this
      omega
    clear h
    induction a generalizing b with
    | nil => cases b with
      | nil => rfl
      | cons y b => simp at h1
    | cons x a ih => cases b with
      | nil => simp at h1
      | cons y b =>
        simp only [List.map_cons, List.cons.injEq, Function.comp] at h1 ⊢
        exact ⟨inj x y h1.1, ih h1.2⟩
  · intro h; rw [h]
def sameO (a b : ObjD) : Bool := (a.kind == b.kind) && decide (a.id = b.id) && decide (a.owner = b.owner) && (a.version == b.version) && (a.deleted == b.deleted) && decide (a.data.map (·.1) = b.data.map (·.1))
theorem vals_inj {a b : List (KInt .u8)} (h : a.map (·.1) = b.map (·.1)) : a = b := by
  induction a generalizing b with
  | nil => cases b with
    | nil => rfl
    | cons y b => simp at h
  | cons x a ih => cases b with
    | nil => simp at h
    | cons y b =>
      simp only [List.map_cons, List.cons.injEq] at h
      rw [ih h.2, Subtype.ext h.1]
theorem sameO_iff {a b : ObjD} : sameO a b = true ↔ a = b := by
  constructor
  · intro h
    simp only [sameO, Bool.and_eq_true, beq_iff_eq, decide_eq_true_eq] at h
    obtain ⟨⟨⟨⟨⟨h1, h2⟩, h3⟩, h4⟩, h5⟩, h6⟩ := h
    have := vals_inj h6
    cases a; cases b
    simp at h1 h2 h3 h4 h5 this
    subst h1 h2 h3 h4 h5 this
    rfl
  · rintro rfl; simp [sameO]
end Go.Proofs.Ytikmficjcbkhcaa
