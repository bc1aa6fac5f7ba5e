/-
  A region whose order is drawn: the evaluator's answer holds in every order (the proof).
-/
import Derived.Test.YtnafhnnhhdmnfaaIdlP
namespace Go.Idl
set_option linter.all false
open Go.RowKit

variable {P : Program} {C : Ctx} {w : World} {a : Act}

/-- How many have not come. -/
def unl (listed : Array Bool) : Nat → Nat
  | 0 => 0
  | m + 1 => unl listed m + if listed.getD m true = false then 1 else 0

theorem unl_zero {listed : Array Bool} : ∀ {m : Nat}, unl listed m = 0 → ∀ k, k < m → listed.getD k true = true
  | 0, _, k, hk => by omega
  | m + 1, h, k, hk => by
    simp only [unl] at h
    by_cases e : k = m
    · subst e
      cases hh : listed.getD k true with
      | true => rfl
      | false => rw [hh] at h; simp at h
    · exact unl_zero (m := m) (by omega) k (by omega)

theorem unl_same {listed : Array Bool} {i : Nat} : ∀ {m : Nat}, m ≤ i → unl (listed.setIfInBounds i true) m = unl listed m
  | 0, _ => rfl
  | m + 1, h => by
    simp only [unl, unl_same (listed := listed) (i := i) (m := m) (by omega), getD_set_ne true (show i ≠ m by omega)]

theorem unl_set {listed : Array Bool} {i : Nat} (hl : listed.getD i true = false) : ∀ {m : Nat}, i < m → unl (listed.setIfInBounds i true) m + 1 = unl listed m
  | 0, h => by omega
  | m + 1, h => by
    simp only [unl]
    by_cases e : i = m
    · subst e
      rw [unl_same (Nat.le_refl _), hl]
      have hlt : i < listed.size := by
        rcases Nat.lt_or_ge i listed.size with h' | h'
        · exact h'
        · simp [Array.getElem?_eq_none h'] at hl
      simp [hlt]
    · have := unl_set hl (m := m) (by omega)
      rw [getD_set_ne true e]
      omega

theorem unl_new (n m : Nat) (h : m ≤ n) : unl (Array.replicate n false) m = m := by
  induction m with
  | zero => rfl
  | succ m ih =>
    simp only [unl, ih (by omega)]
    have : (Array.replicate n false).getD m true = false := by simp [show m < n from by omega]
    rw [this]
    simp

/-- Every order, by an invariant. -/
theorem wpAny_inv {ops : Array Oper} {Q : Exit → Act → World → Prop} (Inv : Array Bool → Act → World → Prop)
    (hend : ∀ listed a w, Inv listed a w → listed.size = ops.size → (∀ k, k < ops.size → listed.getD k true = true) → Q .normal a w)
    (hmin : ∀ listed a w, Inv listed a w → listed.size = ops.size → Region.ready .any ops listed = [] → ∀ k, k < ops.size → listed.getD k true = true)
    (hstep : ∀ listed a w i, Inv listed a w → listed.size = ops.size → i ∈ Region.ready .any ops listed → wpOp P ops Q i (Inv (listed.setIfInBounds i true)) a w) :
    ∀ fuel listed a w, Inv listed a w → listed.size = ops.size → unl listed ops.size = fuel → wpAny P .any ops Q fuel listed a w
  | 0, listed, a, w, hI, hs, hu => by
    have hall := unl_zero hu
    refine ⟨?_, hend listed a w hI hs hall⟩
    rw [List.eq_nil_iff_forall_not_mem]
    intro i hi
    obtain ⟨h0, o, ho, _⟩ := mem_ready.1 hi
    rw [hall i (Array.getElem?_eq_some_iff.1 ho).1] at h0
    cases h0
  | fuel + 1, listed, a, w, hI, hs, hu => by
    refine ⟨fun hr => hend listed a w hI hs (hmin listed a w hI hs hr), fun i hi => ?_⟩
    refine wpOp_mono (fun a' w' hI' => wpAny_inv Inv hend hmin hstep fuel _ a' w' hI' (by simp [hs]) ?_) (hstep listed a w i hI hs hi)
    obtain ⟨h0, o, ho, _⟩ := mem_ready.1 hi
    have := unl_set h0 (Array.getElem?_eq_some_iff.1 ho).1
    omega

theorem trace_sound {Φ : Specs} (hΦ : Met P Φ) (hm : P.follows .mixedOrders = true) {ops : Array Oper} {id n n0 : Nat} {ds : List Deferred} {Q : Exit → Act → World → Prop} {τ τ' : Nat → V} {H H' : Heap} {recs : List Rec}
    (hok : ops.toList.all (dstOk n) = true) (hdr : drawOk ops = true) (hn : a.tmps.size = n) (hds : a.defers = ds) (hS : ∃ γ I, Sim C γ I τ H a.tmps w)
    (htr : trace P Φ ops n0 ops.toList 0 τ H = some (recs, τ', H')) (hap : apartAll (befs ops.toList []) recs = true)
    (hQ : ∀ a' w', a'.tmps.size = n → a'.defers = ds → (∃ γ I, Sim C γ I τ' H' a'.tmps w') → Q .normal a' w') : (Code.region id ops true).wp P Q a w := by
      obtain ⟨γ0, I0, hS⟩ := hS
      have hops : ∀ k o, ops.toList[k]? = some o → ops[0 + k]? = some o := fun k o h => by simpa using h
      obtain ⟨hrl, hfacts, hτe, hHe⟩ := trace_facts (P := P) (Φ := Φ) (ops := ops) (n0 := n0) (fun k => recs.getD k rec0) τ H ops.toList 0 τ H recs τ' H' hops
        (fun k r hr => by simp [List.getD_eq_getElem?_getD, hr]) rfl rfl htr
      have hlen : ops.toList.length = ops.size := by simp
      rw [hlen] at hrl hτe hHe
      simp only [Nat.zero_add] at hfacts hτe hHe
      generalize hR : (fun k => recs.getD k rec0) = R at hfacts hτe hHe
      -- the two checks, as facts on pairs
      have hpair : ∀ i j, i < j → j < ops.size → ((befs ops.toList []).getD j 0).testBit i = true ∨ clash (R i) (R j) = false := by
        intro i j hij hj
        simp only [apartAll, List.all_eq_true, List.mem_range] at hap
        have := hap j (by omega) i hij
        simp only [Bool.or_eq_true, Bool.not_eq_true'] at this
        rw [← hR]
        exact this
      have hstat : ∀ i j oi oj, i < j → ops[i]? = some oi → ops[j]? = some oj → ((befs ops.toList []).getD j 0).testBit i = true ∨ Oper.apart ops oi oj = true := by
        intro i j oi oj hij hi hj
        simp only [drawOk, List.all_eq_true, List.mem_range, Bool.and_eq_true, Bool.or_eq_true] at hdr
        have := (hdr j (Array.getElem?_eq_some_iff.1 hj).1).2 i hij
        simpa [Array.getD_eq_getD_getElem?, hi, hj] using this
      have hback : ∀ j oj, ops[j]? = some oj → ∀ e, e ∈ oj.after → Region.binds .any e = true → e.on < j := by
        intro j oj hj e he hb
        simp only [drawOk, List.all_eq_true, List.mem_range, Bool.and_eq_true] at hdr
        have := (hdr j (Array.getElem?_eq_some_iff.1 hj).1).1
        rw [Array.getD_eq_getD_getElem?, hj, Option.getD_some, Array.all_eq_true_iff_forall_mem] at this
        have := this e he
        simpa [hb] using this
      let S : Array Bool → Nat → Bool := fun listed k => listed.getD k false
      let Inv : Array Bool → Act → World → Prop := fun listed a w => a.tmps.size = n ∧ a.defers = ds ∧ Down ops (S listed) ∧
        ∃ γ I, Sim C γ I (curT R τ ops (S listed) ops.size) (curH R H (S listed) ops.size) a.tmps w
      refine wp_region_any hm (wpAny_inv Inv ?_ ?_ ?_ ops.size _ a _ ?_ (by simp) (unl_new _ _ (Nat.le_refl _)))
      · -- all have come
        rintro listed a' w' ⟨h1, h2, _, γ, I, h4⟩ hsz hall
        refine hQ a' w' h1 h2 ⟨γ, I, ?_⟩
        have hS1 : ∀ k, k < ops.size → S listed k = true := fun k hk => by
          have := hall k hk
          simp only [S]
          rw [Array.getD_eq_getD_getElem?] at this ⊢
          cases hh : listed[k]? with
          | none => rw [Array.getElem?_eq_none_iff] at hh; omega
          | some b => rw [hh] at this; simpa using this
        rw [hτe, hHe]
        have e1 : curT R τ ops (S listed) ops.size = curT R τ ops (fun _ => true) ops.size := by
          funext t
          exact cur_congr _ _ fun k hk _ => hS1 k hk
        have e2 : curH R H (S listed) ops.size = curH R H (fun _ => true) ops.size := by
          funext t
          exact cur_congr _ _ fun k hk _ => hS1 k hk
        rw [← e1, ← e2]
        exact h4
      · -- somebody may come
        rintro listed a' w' _ hsz hr
        intro k
        induction k using Nat.strongRecOn with
        | _ k ih =>
          intro hk
          cases hh : listed.getD k true with
          | true => rfl
          | false =>
            exfalso
            have hmem : k ∈ Region.ready .any ops listed := by
              rw [mem_ready]
              refine ⟨hh, ops[k], by simp [hk], fun e he hb => ?_⟩
              have hlt := hback k ops[k] (by simp [hk]) e he hb
              have := ih e.on hlt (by omega)
              rw [Array.getD_eq_getD_getElem?] at this ⊢
              cases hh2 : listed[e.on]? with
              | none => rw [Array.getElem?_eq_none_iff] at hh2; omega
              | some b => rw [hh2] at this; simpa using this
            rw [hr] at hmem
            cases hmem
      · -- one comes
        rintro listed a' w' i ⟨h1, h2, hdown, γ, I, h4⟩ hsz hi
        obtain ⟨h0, oi, hoi, hpre⟩ := mem_ready.1 hi
        have hilt : i < ops.size := (Array.getElem?_eq_some_iff.1 hoi).1
        have hsi : S listed i = false := by
          simp only [S]
          rw [Array.getD_eq_getD_getElem?] at h0 ⊢
          cases hh : listed[i]? with
          | none => simp
          | some b => rw [hh] at h0; simpa using h0
        have hpre' : ∀ o, ops[i]? = some o → ∀ e, e ∈ o.after → Region.binds .any e = true → S listed e.on = true := fun o ho e he hb => by
          rw [hoi] at ho
          cases ho
          exact hpre e he hb
        have hbefI : ∀ k, ((befs ops.toList []).getD i 0).testBit k = true → S listed k = true := fun k hk =>
          befs_down hdown ops.toList [] (by simp) (by simp) i k hk hpre'
        have hbefK : ∀ k, ((befs ops.toList []).getD k 0).testBit i = true → S listed k = true → False := fun k hk hs => by
          have := befs_down hdown ops.toList [] (by simp) (by simp) k i hk (fun o ho e he hb => hdown k o ho hs e he hb)
          rw [hsi] at this
          cases this
        -- the temporaries that it looks at
        have hlook : ∀ t, t ∈ oi.looksAt ops → curT R τ ops (S listed) ops.size t = curT R τ ops (fun _ => true) i t := by
          intro t ht
          refine cur_read _ _ (by omega) (fun k hk hki hw => ?_) hsi
          have ⟨ok, hok', hdk⟩ : ∃ ok, ops[k]? = some ok ∧ ok.dst = some t := by
            unfold wrT at hw
            cases hh : ops[k]? with
            | none => simp [hh] at hw
            | some ok =>
              refine ⟨ok, rfl, ?_⟩
              simp [hh] at hw
              exact hw
          refine ⟨fun hlt => ?_, fun hgt => ?_⟩
          · rcases hstat k i ok oi hlt hok' hoi with hb | hap'
            · exact hbefI k hb
            · exact absurd ht ((Oper.apart_spec hap').1 t hdk)
          · cases hsk : S listed k with
            | false => rfl
            | true =>
              exfalso
              rcases hstat i k oi ok hgt hoi hok' with hb | hap'
              · exact hbefK k hb hsk
              · exact absurd ht ((Oper.apart_spec hap').2.2 t hdk)
        have hopd : ∀ x ∈ oi.op.operands, opd (curT R τ ops (S listed) ops.size) x = opd (curT R τ ops (fun _ => true) i) x := by
          intro x hx
          cases x with
          | tmp t => exact hlook t (List.mem_append_left _ (List.mem_filterMap.2 ⟨.tmp t, by simpa using hx, rfl⟩))
          | _ => rfl
        have hwant : wantV (curT R τ ops (S listed) ops.size) ops oi = wantV (curT R τ ops (fun _ => true) i) ops oi := by
          unfold wantV
          cases hg : oi.guard with
          | none => rfl
          | some gw =>
            obtain ⟨g, want⟩ := gw
            dsimp only
            cases hd : (ops[g]?).bind (·.dst) with
            | none => rfl
            | some t =>
              dsimp only
              rw [hlook t (List.mem_append_right _ (by simp [hg, hd]))]
        -- what it writes is written last
        have hnewT : ∀ t, curT R τ ops (S (listed.setIfInBounds i true)) ops.size t = (wrT R ops i t).getD (curT R τ ops (S listed) ops.size t) := by
          intro t
          refine cur_write _ _ (S := S listed) (fun k => ?_) hilt (fun hwi k hik hk hwk => ?_) hsi
          · simp only [S]
            by_cases e : k = i
            · subst e; simp [hsz, hilt]
            · rw [if_neg e, getD_set_ne false (fun h => e h.symm)]
          · have ⟨ok, hok', hdk⟩ : ∃ ok, ops[k]? = some ok ∧ ok.dst = some t := by
              unfold wrT at hwk
              cases hh : ops[k]? with
              | none => simp [hh] at hwk
              | some ok => exact ⟨ok, rfl, by simpa [hh] using hwk⟩
            have hdi : oi.dst = some t := by
              unfold wrT at hwi
              simpa [hoi] using hwi
            cases hsk : S listed k with
            | false => rfl
            | true =>
              exfalso
              rcases hstat i k oi ok hik hoi hok' with hb | hap'
              · exact hbefK k hb hsk
              · exact (Oper.apart_spec hap').2.1 t hdi hdk
        have hnewH : ∀ x, curH R H (S (listed.setIfInBounds i true)) ops.size x = (wrH R i x).getD (curH R H (S listed) ops.size x) := by
          intro x
          refine cur_write _ _ (S := S listed) (fun k => ?_) hilt (fun hwi k hik hk hwk => ?_) hsi
          · simp only [S]
            by_cases e : k = i
            · subst e; simp [hsz, hilt]
            · rw [if_neg e, getD_set_ne false (fun h => e h.symm)]
          · obtain ⟨y, hy⟩ := lastOf_mem hwi
            obtain ⟨z, hz⟩ := lastOf_mem hwk
            cases hsk : S listed k with
            | false => rfl
            | true =>
              exfalso
              rcases hpair i k hik hk with hb | hc
              · exact hbefK k hb hsk
              · simp only [clash, Bool.or_eq_false_iff, List.any_eq_false] at hc
                have := hc.1 _ hy
                simp only [Bool.or_eq_true, not_or, List.any_eq_true, not_exists, not_and] at this
                exact this.2 _ hz (by simp)
        have hdown' : Down ops (S (listed.setIfInBounds i true)) := by
          intro k ok hk hsk e he hb
          have keep : ∀ q, S listed q = true → S (listed.setIfInBounds i true) q = true := fun q hq => getD_set_true hq
          by_cases e' : k = i
          · subst e'
            exact keep _ (hpre' ok hk e he hb)
          · refine keep _ (hdown k ok hk ?_ e he hb)
            simp only [S] at hsk ⊢
            rw [getD_set_ne false (fun h => e' h.symm)] at hsk
            exact hsk
        have hdi : dstOk a'.tmps.size oi = true := by
          rw [h1]
          rw [List.all_eq_true] at hok
          exact hok oi (by simpa using Array.mem_of_getElem? hoi)
        -- the new state
        have fin : ∀ {u : Value} {w'' : World} {γ' : Places} {I' : Imm}, Sim C γ' I' (curT R τ ops (S listed) ops.size) (putH (curH R H (S listed) ops.size) (R i).δ) a'.tmps w'' → Rep I' w'' γ' (R i).v u →
            Inv (listed.setIfInBounds i true) (a'.put oi.dst u) w'' := by
          intro u w'' γ' I' hsim hrep
          have eH : putH (curH R H (S listed) ops.size) (R i).δ = curH R H (S (listed.setIfInBounds i true)) ops.size := by
            funext x
            rw [putH_last, hnewH]
            rfl
          rw [eH] at hsim
          unfold dstOk at hdi
          cases hd : oi.dst with
          | none =>
            refine ⟨h1, h2, hdown', γ', I', ?_⟩
            have eT : curT R τ ops (S (listed.setIfInBounds i true)) ops.size = curT R τ ops (S listed) ops.size := by
              funext t
              rw [hnewT]
              simp [wrT, hoi, hd]
            rw [eT]
            exact hsim
          | some d =>
            rw [hd] at hdi
            simp only [decide_eq_true_eq] at hdi
            refine ⟨by simp [Act.put, h1], h2, hdown', γ', I', ?_⟩
            have eT : curT R τ ops (S (listed.setIfInBounds i true)) ops.size = updT (curT R τ ops (S listed) ops.size) d (R i).v := by
              funext t
              rw [hnewT]
              simp only [wrT, hoi, hd, Option.bind_some, Option.some.injEq, updT]
              by_cases e : t = d
              · subst e; simp
              · rw [if_neg e, if_neg (fun h => e h.symm)]; rfl
            rw [eT]
            exact hsim.put hrep hdi
        unfold wpOp
        simp only [hoi]
        rcases hfacts i oi (by simpa using hoi) with ⟨hw, hev, hrd⟩ | ⟨hw, hv, hδ⟩
        · rw [← hwant] at hw
          rw [if_pos (wantV_sound h4 hw)]
          refine .inl ?_
          have hneed := (evOp_congr (P := P) (Φ := Φ) (nid := n0 + i) (h := fun _ => .dead) oi hopd).2
          have hev' : ev P Φ (n0 + i) (opd (curT R τ ops (S listed) ops.size)) (curH R H (S listed) ops.size) oi = some ((R i).v, (R i).δ) := by
            rw [← hev]
            unfold ev
            have eO : only (need (n0 + i) (opd (curT R τ ops (S listed) ops.size)) oi) (curH R H (S listed) ops.size) =
                only (need (n0 + i) (opd (curT R τ ops (fun _ => true) i)) oi) (curH R H (fun _ => true) i) := by
              funext x
              rw [hneed]
              unfold only
              split
              · rename_i hx
                refine cur_read _ _ (by omega) (fun k hk hki hwk => ?_) hsi
                obtain ⟨z, hz⟩ := lastOf_mem hwk
                have hxr : x ∈ (R i).rd := by rw [hrd]; simpa using hx
                refine ⟨fun hlt => ?_, fun hgt => ?_⟩
                · rcases hpair k i hlt hilt with hb | hc
                  · exact hbefI k hb
                  · exfalso
                    simp only [clash, Bool.or_eq_false_iff, List.any_eq_false] at hc
                    have := hc.1 _ hz
                    simp only [Bool.or_eq_true, not_or] at this
                    exact this.1 (by simpa using hxr)
                · cases hsk : S listed k with
                  | false => rfl
                  | true =>
                    exfalso
                    rcases hpair i k hgt hk with hb | hc
                    · exact hbefK k hb hsk
                    · simp only [clash, Bool.or_eq_false_iff, List.any_eq_false] at hc
                      exact hc.2 _ hz (by simpa using hxr)
              · rfl
            rw [eO]
            exact (evOp_congr oi hopd).1
          exact ev_sound hΦ h4 hev' _ _ fun u w'' γ' I' hs' hr => fin hs' hr
        · rw [← hwant] at hw
          rw [if_neg (by rw [wantV_sound h4 hw]; simp)]
          refine fin (γ' := γ) (I' := I) ?_ ?_
          · rw [hδ]; exact h4
          · rw [hv]; exact .sc _ _
      · -- the start
        refine ⟨hn, hds, fun k o _ hs => ?_, γ0, I0, ?_⟩
        · simp only [S] at hs
          rw [Array.getD_eq_getD_getElem?] at hs
          cases hh : (Array.replicate ops.size false)[k]? with
          | none => rw [hh] at hs; simp at hs
          | some b =>
            rw [hh] at hs
            simp [Array.getElem?_replicate] at hh
            simp at hs
            rw [hh.2] at hs
            cases hs
        · have hS0 : ∀ k, S (Array.replicate ops.size false) k = false := fun k => by
            simp only [S]
            rw [Array.getD_eq_getD_getElem?, Array.getElem?_replicate]
            split <;> rfl
          have e1 : curT R τ ops (S (Array.replicate ops.size false)) ops.size = τ := by
            funext t
            exact cur_cut _ _ (i := 0) (by omega) fun k _ _ _ => hS0 k
          have e2 : curH R H (S (Array.replicate ops.size false)) ops.size = H := by
            funext t
            exact cur_cut _ _ (i := 0) (by omega) fun k _ _ _ => hS0 k
          rw [e1, e2]
          exact hS.drawn _

theorem evDraw_sound {Φ : Specs} (hΦ : Met P Φ) (hm : P.follows .mixedOrders = true) {ops : Array Oper} {id n : Nat} {ds : List Deferred} {Q : Exit → Act → World → Prop} {s s' : St}
    (hok : ops.toList.all (dstOk n) = true) (hdr : drawOk ops = true) (hn : a.tmps.size = n) (hds : a.defers = ds) (hS : SimS C s a w) (h : evDraw P Φ ops s = some s')
    (hQ : ∀ a' w', a'.tmps.size = n → a'.defers = ds → SimS C s' a' w' → Q .normal a' w') : (Code.region id ops true).wp P Q a w := by
  unfold evDraw at h
  split at h
  · rename_i recs s1 htr
    split at h
    · rename_i hap
      cases h
      exact trace_sound hΦ hm hok hdr hn hds hS (traceL_eq _ _ _ _ _ _ htr) hap hQ
    · cases h
  · cases h

end Go.Idl
