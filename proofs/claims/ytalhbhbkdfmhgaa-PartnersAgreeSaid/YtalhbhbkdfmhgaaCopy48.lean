/- A slice is copied into a slice of the call's own. -/
import Derived.Test.YtalhbhbkdfmhgaaRoam48i
namespace Go.Idl
open Go.RowKit
set_option linter.all false
set_option linter.all false
variable [Laid]
theorem opT_copy {P : Program} {C : Ctx} {t t2 e : TypeId} {ty sz : Nat} (ht : P.underlying t = some (.slice e)) (hi : (P.info? e).map (·.size) = some sz) (hpos : 0 < sz) {τ : Nat → V} {H : Heap} {n k k2 id off len : Nat} {es ys : List V} {K : V → SF → Prop}
    (hx : τ k = .own id off len) (hH : H id = .live sz es true) (hle : off + len ≤ es.length) (hy : τ k2 = .slice sz ys) (hyl : ys.length = len) (hlen : ∀ y ∈ ys, y.cells.length = sz) (hF : ys.all V.isF = true)
    (hk : K (.sc (.int .i64 len)) ⟨τ, updH H id (.live sz (es.take off ++ ys ++ es.drop (off + len)) true), n⟩) : OpT P C (pu (.call ⟨.builtin .copy, #[.tmp k, .tmp k2], #[t, t2]⟩) ty) ⟨τ, H, n⟩ K := by
  intro tm ds w γ I hS
  left
  have hr : Rep I w γ (.own id off len) ((⟨tm, ds⟩ : Act).eval (.tmp k)) := by
    have := hS.opd ds (.tmp k)
    simp only [opd] at this
    rw [hx] at this
    exact this
  have hr2 : Rep I w γ (.slice sz ys) ((⟨tm, ds⟩ : Act).eval (.tmp k2)) := by
    have := hS.opd ds (.tmp k2)
    simp only [opd] at this
    rw [hy] at this
    exact this
  generalize hu : (⟨tm, ds⟩ : Act).eval (.tmp k) = u at hr
  generalize hu2 : (⟨tm, ds⟩ : Act).eval (.tmp k2) = u2 at hr2
  obtain ⟨nl, hs⟩ := src_rep (P := P) hS hpos (ids := []) (ys := ys) (show news (only [] H) sz (.slice sz ys) = some ys by simp [news, V.elems]) hr2 (by rw [List.all_eq_true]; intro y hy'; simpa using hlen y hy')
  have hone := hs.one hpos hlen hF
  have hsz : ∀ w', (sizeOf e).run P w' = .ok sz w' := fun w' => by
    obtain ⟨i, hi1, hi2⟩ := Option.map_eq_some_iff.1 hi
    simp [sizeOf, typeInfo, hi1, hi2]
  have hcnt := hs.count w
  have hfst := hs.first w (fun _ => rfl)
  rw [hyl] at hcnt hfst
  have hcopy : ∀ w', (Builtin.copy_ #[t, t2] ty #[u, u2]).run P w = .ok (goInt len) w' → (execOp (Act.eval ⟨tm, ds⟩) (pu (.call ⟨.builtin .copy, #[.tmp k, .tmp k2], #[t, t2]⟩) ty)).run P w = .ok (.value (goInt len)) w' := by
    intro w' h
    simp [pu, execOp, resolve, invoke, builtin, hu, hu2, h]
  have hnl := hs.len
  rw [hyl] at hnl
  rcases Nat.eq_zero_or_pos len with h0 | hlenp
  · subst h0
    have hnl0 : nl = [] := List.eq_nil_of_length_eq_zero (by omega)
    subst hnl0
    have hys : ys = [] := List.eq_nil_of_length_eq_zero hyl
    subst hys
    have hrun : (Builtin.copy_ #[t, t2] ty #[u, u2]).run P w = .ok (goInt (0 : Nat)) w := by
      cases hr with
      | own => simp [Builtin.copy_, run_underlying ht, hcnt, hsz, hfst, storeCells]
      | own0 _ _ _ A => cases A <;> simp [Builtin.copy_, run_underlying ht, hcnt, hsz, hfst, storeCells]
    refine ⟨_, w, .sc (.int .i64 (0 : Nat)), _, γ, I, hcopy w hrun, hk, ?_, .sc _ _⟩
    have : es.take off ++ [] ++ es.drop (off + 0) = es := by simp
    dsimp only
    rw [this, set_same H id _ hH]
    exact hS
  · cases hr with
    | own0 => omega
    | own _ _ _ _ cap p c t0 m0 hp hcap hb hroom =>
      rcases hS.obj id sz es true hH with h0 | ⟨p', c', t', ho'⟩
      · rw [h0.1] at hle; simp at hle; omega
      · rw [ho'.place] at hp
        cases hp
        rw [ho'.blk] at hb
        cases hb
        have hpsz := ho'.size
        rw [hpsz] at hroom hu
        have hnn : (off + len) * sz ≤ (off + cap) * sz := Nat.mul_le_mul_right _ (by omega)
        have hadd : (off + len) * sz = off * sz + len * sz := Nat.add_mul _ _ _
        have hst := run_storeCells_q (P := P) p.blk (p.off + off * sz) t'.1 t'.2 nl 0 c w ho'.blk ho'.quiet (by omega) hone
        simp only [Nat.add_zero] at hst
        generalize hcn : (c.toList.take (p.off + off * sz) ++ nl ++ c.toList.drop (p.off + off * sz + nl.length)).toArray = cn at hst
        have hrun : (Builtin.copy_ #[t, t2] ty #[.slice (some ⟨p.blk, p.off + off * sz, none⟩) len cap, u2]).run P w = .ok (goInt len) (w.setRow p.blk cn) := by
          simp [Builtin.copy_, run_underlying ht, hcnt, hsz, hfst, hst]
        have hg' : (w.setRow p.blk cn).heap[p.blk]? = some (.cells cn t'.1 t'.2) := setRow_heap w p.blk c cn t'.1 t'.2 ho'.blk
        have hsz' : cn.size = c.size := by rw [← hcn]; simp; omega
        have hget : ∀ j, cn[j]? = if p.off + off * sz ≤ j ∧ j < p.off + off * sz + len * sz then nl[j - (p.off + off * sz)]? else c[j]? := by
          intro j
          rw [← hcn, List.getElem?_toArray, List.append_assoc]
          have h1 : (c.toList.take (p.off + off * sz)).length = p.off + off * sz := by simp; omega
          by_cases hj : j < p.off + off * sz
          · rw [List.getElem?_append_left (by omega), if_neg (by omega), List.getElem?_take, if_pos hj, Array.getElem?_toList]
          · rw [List.getElem?_append_right (by omega), h1]
            by_cases hj2 : j < p.off + off * sz + len * sz
            · rw [List.getElem?_append_left (by omega), if_pos ⟨by omega, hj2⟩]
            · rw [List.getElem?_append_right (by omega), if_neg (by omega), List.getElem?_drop, Array.getElem?_toList]
              congr 1
              omega
        have hfar : ∀ k, k ≠ p.blk → (w.setRow p.blk cn).heap[k]? = w.heap[k]? := by
          intro k hk
          simp only [World.setRow, Array.getElem?_modify]
          rw [if_neg (fun e => hk e.symm)]
        have hlive : (H id).isLive := by rw [hH]; trivial
        have hd := hS.dom id p ho'.place
        have k1 := (hS.kill id).touch hd.2.1 (hS.idle hlive ho'.place) ho'.blk hg' hsz' (fun y hy => absurd hy (ho'.mutb rfl y)) hfar (by simp [World.setRow]) rfl rfl rfl rfl
        have hpres : Pres I w (w.setRow p.blk cn) := ⟨fun g z hz => by
            by_cases eg : g = p.blk
            · subst eg; exact absurd hz (ho'.mutb rfl z)
            · simp [World.cell?, hfar g eg], fun g c0 t0 m0 h0 => by
            by_cases eg : g = p.blk
            · subst eg; rw [ho'.blk] at h0; cases h0; exact ⟨cn, hg', hsz'⟩
            · exact ⟨c0, (hfar g eg).trans h0, rfl⟩, fun g es n hx h0 => by
            by_cases eg : g = p.blk
            · subst eg; rw [ho'.blk] at h0; cases h0
            · exact (hfar g eg).trans h0⟩
        refine ⟨_, _, .sc (.int .i64 len), _, γ, I, hcopy _ (by rw [hpsz]; exact hrun), hk, ?_, .sc _ _⟩
        dsimp only
        have k2 : Sim C γ I τ (updH (updH H id .dead) id (.live sz (es.take off ++ ys ++ es.drop (off + len)) true)) tm (w.setRow p.blk cn) := by
          refine k1.revive (p := p) (c := cn) (t := t') ?_ ⟨ho'.place, ho'.size, hg', ?_, ?_, fun _ z hz => ho'.mutb rfl z hz, by simp, by rw [hsz']; exact ho'.quiet⟩
          · rw [updH_updH]; exact hS.idle hlive ho'.place
          · intro e' he'
            rw [List.append_assoc] at he'
            rcases List.mem_append.1 he' with h2 | h2
            · exact ho'.len e' (List.mem_of_mem_take h2)
            · rcases List.mem_append.1 h2 with h2 | h2
              · exact hlen e' h2
              · exact ho'.len e' (List.mem_of_mem_drop h2)
          · intro i j e' x he' hx'
            have htl : (es.take off).length = off := by simp; omega
            have hjl : e'.cells.length = sz → j < sz := fun h => by
              have := (List.getElem?_eq_some_iff.1 hx').1
              omega
            rw [hget]
            by_cases hi : i < off
            · rw [List.append_assoc, List.getElem?_append_left (by omega), List.getElem?_take, if_pos hi] at he'
              have hj := hjl (ho'.len e' (List.mem_of_getElem? he'))
              obtain ⟨z', hz', hr⟩ := ho'.cell i j e' x he' hx'
              refine ⟨z', ?_, hr.mono hpres (fun _ _ h => h) fun _ _ h => h⟩
              have : (i + 1) * sz ≤ off * sz := Nat.mul_le_mul_right _ (by omega)
              rw [Nat.add_mul] at this
              rw [if_neg (by omega)]
              exact hz'
            · by_cases hi2 : i < off + len
              · rw [List.append_assoc, List.getElem?_append_right (by omega), List.getElem?_append_left (by rw [htl, hyl]; omega), htl] at he'
                have hj := hjl (hlen e' (List.mem_of_getElem? he'))
                have ha1 : off * sz ≤ i * sz := Nat.mul_le_mul_right _ (by omega)
                have ha2 : (i + 1) * sz ≤ (off + len) * sz := Nat.mul_le_mul_right _ (by omega)
                rw [Nat.add_mul] at ha2
                rw [if_pos (by omega)]
                obtain ⟨z', hz', hr⟩ := hs.cell (i - off) j e' x he' hx'
                refine ⟨z', ?_, hr.mono hpres (fun _ _ h => h) fun _ _ h => h⟩
                have : (i - off) * sz = i * sz - off * sz := Nat.sub_mul _ _ _
                rw [← hz']
                congr 1
                omega
              · rw [List.getElem?_append_right (by simp; omega), List.getElem?_drop] at he'
                have hl2 : (es.take off ++ ys).length = off + len := by simp; omega
                rw [hl2, show off + len + (i - (off + len)) = i by omega] at he'
                obtain ⟨z', hz', hr⟩ := ho'.cell i j e' x he' hx'
                refine ⟨z', ?_, hr.mono hpres (fun _ _ h => h) fun _ _ h => h⟩
                have : (off + len) * sz ≤ i * sz := Nat.mul_le_mul_right _ (by omega)
                rw [if_neg (by omega)]
                exact hz'
        rw [updH_updH] at k2
        exact k2
theorem stepI_copy {P : Program} {C : Ctx} {Φ : Specs} {Q : SF → Prop} {rest : List IOp} {d : Nat} {t t2 e : TypeId} {ty sz : Nat} (ht : P.underlying t = some (.slice e)) (hi : (P.info? e).map (·.size) = some sz) (hpos : 0 < sz) {τ : Nat → V} {H : Heap} {n k k2 id off len : Nat} {es ys : List V} {E : Option (V × List (Nat × Idl.Obj))}
    (hx : τ k = .own id off len) (hH : H id = .live sz es true) (hle : off + len ≤ es.length) (hy : τ k2 = .slice sz ys) (hyl : ys.length = len) (hlen : ∀ y ∈ ys, y.cells.length = sz) (hF : ys.all V.isF = true)
    (h : seqI P Φ C Q rest ⟨updT τ d (.sc (.int .i64 len)), updH H id (.live sz (es.take off ++ ys ++ es.drop (off + len)) true), n⟩) (hE : E = none) :
    stepI P Φ C Q rest (some d) (some (.pur (pu (.call ⟨.builtin .copy, #[.tmp k, .tmp k2], #[t, t2]⟩) ty))) τ H n E := by
  subst hE
  exact opT_copy (P := P) (C := C) (K := fun v s' => seqI P Φ C Q rest ⟨updT τ d v, s'.H, s'.n⟩) ht hi hpos hx hH hle hy hyl hlen hF h
theorem copy_none {P : Program} {Φ : Specs} {τ : Nat → V} {H : Heap} {n k k2 id off len ty : Nat} {t t2 : TypeId} (hx : τ k = .own id off len) : evIO P Φ n τ H (.pur (pu (.call ⟨.builtin .copy, #[.tmp k, .tmp k2], #[t, t2]⟩) ty)) = none := by
  simp only [evIO, evPure]
  rw [if_neg]
  simp [pu, Op.operands, Call.operands, opd, hx, V.conc]
end Go.Idl
namespace Go.Proofs.Ytalhbhbkdfmhgaa
set_option linter.all false
end Go.Proofs.Ytalhbhbkdfmhgaa
