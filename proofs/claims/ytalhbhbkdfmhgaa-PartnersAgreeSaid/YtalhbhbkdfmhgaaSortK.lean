/- slices.SortFunc: the kit's contract, laid by the kit's tool at this program, as a rule of the walk. -/
import Derived.Test.YtalhbhbkdfmhgaaIdlM4
import Derived.Shelf.SlSortCmp.NoneTotal
import Derived.Test.YtalhbhbkdfmhgaaRows
namespace Go.Idl
set_option linter.all false
open Go.RowKit Go.Sort Go.Shelf
variable [Laid]
structure SortK (P : Program) (f : FuncId) (k : Nat) : Prop where
  enters : enters P f = true
  none : ∀ (p : Option Addr) (cap : Nat) (fv : Value) (w : World), Calls P f #[.slice p 0 cap, fv] w fun e w' => e = .returned (.tuple #[]) ∧ w' = w
  some : ∀ {α : Type} [Inhabited α] (enc : α → List Value) (hk : ∀ x, (enc x).length = k) (h1 : ∀ x, ∀ v ∈ enc x, v.oneCell' = true) (cf : α → α → Int) (hO : SWO (Go.Proofs.ltOf cf)) (g : Nat) (cb : Array Value) (blk off cap : Nat) (d : Array α) (w : World)
    (eg : ∀ args w, (callFunc g args).run P w = .ok (.enter g args) w) (hcmp : Go.Proofs.CmpLays P g cb enc k cf blk off d.size w) (hH : HoldsK enc k w blk off d) (hblk : blk < w.heap.size) (hsz : d.size < 4611686018427387904),
    Calls P f #[.slice (.some ⟨blk, off, .none⟩) d.size cap, .func (.func g) #[] cb] w fun e w' =>
      e = .returned (.tuple #[]) ∧ ∃ d' n os, PermIn 0 d.size d d' ∧ SortedIn (Go.Proofs.ltOf cf) 0 d.size d' ∧ w' = Go.Proofs.sortWorldK enc k w blk off n d' os
theorem bel_grow {w w' : World} (h : Bel w.heap.size w w') : ∃ q os, w' = grow (w.drewN q) os := by
  refine ⟨w'.drawn - w.drawn, w'.heap.extract w.heap.size w'.heap.size, ?_⟩
  have h1 : w.drawn + (w'.drawn - w.drawn) = w'.drawn := by have := h.dr; omega
  have hh : w.heap ++ w'.heap.extract w.heap.size w'.heap.size = w'.heap := by
    apply Array.ext_getElem?
    intro i
    rw [Array.getElem?_append]
    have hs := h.size
    split
    · rename_i hi; exact (h.block i hi).symm
    · rename_i hi
      rw [Array.getElem?_extract]
      by_cases h2 : i < w'.heap.size
      · rw [if_pos (by omega)]; congr 1; omega
      · rw [if_neg (by omega)]
        simp [Array.getElem?_eq_none (by omega : w'.heap.size ≤ i)]
  cases w'
  simp only [grow, World.drewN, h1]
  simp only at hh
  rw [hh]
  simp [← h.os, ← h.tape, ← h.output]
theorem isFc_one {I : Imm} {w : World} {γ : Places} {x : V} {u : Value} (h : Rep I w γ x u) (hf : x.isFc = true) : u.oneCell' = true := by
  cases h <;> first | exact hf | rfl | (simp [V.isFc] at hf; done)
theorem sortWorld_heap {α : Type} (enc : α → List Value) [Inhabited α] (k : Nat) (w : World) (blk off m : Nat) (dk : Array α) (os : Array Go.Obj) {c : Array Value} {t : TypeId} {mm : Nat × Nat} (hb : w.heap[blk]? = some (.cells c t mm)) :
    (Go.Proofs.sortWorldK enc k w blk off m dk os).heap[blk]? = some (.cells (putCells id off (flatK enc k dk) c) t mm) ∧
    (∀ i, i < w.heap.size → i ≠ blk → (Go.Proofs.sortWorldK enc k w blk off m dk os).heap[i]? = w.heap[i]?) ∧ w.heap.size ≤ (Go.Proofs.sortWorldK enc k w blk off m dk os).heap.size := by
  have hlt : blk < w.heap.size := (Array.getElem?_eq_some_iff.1 hb).1
  refine ⟨?_, fun i hi hne => ?_, ?_⟩
  · show (grow (putRow id _ _ _ _) os).heap[blk]? = _
    rw [heap_grow_old _ _ (by simpa using hlt)]
    simp [putRow, mapBlock, Sort.ahead, hb, onCells, Array.getElem?_modify]
  · show (grow (putRow id _ _ _ _) os).heap[i]? = _
    rw [heap_grow_old _ _ (by simpa using hi)]
    simp [putRow, mapBlock, Sort.ahead, Array.getElem?_modify, Ne.symm hne]
  · exact Go.Proofs.size_sortWorldK_c enc k w blk off m dk os
section
variable {P : Program} {C : Ctx}
theorem sort_get (es : List V) (len : Nat) (hlen : len ≤ es.length) (x : Nat) (hx : x < len) : es[x]? = some (es.getD x .any) := by
  rw [List.getD_eq_getElem?_getD, List.getElem?_eq_getElem (by omega)]
  rfl
theorem CallT.sort {f g k : Nat} (hs : SortK P f k) (he : Idl.enters P g = true) {F : List V → Option V} (hc : Contract P g F) {s : SF} {id len : Nat} {es : List V} (cd : V → V → Int)
    (hH : s.H id = .live k es true) (hlen : len ≤ es.length) (h62 : len < 4611686018427387904)
    (hag : ∀ e, e ∈ es.take len → ∃ cs, e = .agg cs) (hfx : ∀ e, e ∈ es.take len → e.isF = true)
    (hF : ∀ a, a ∈ es.take len → ∀ b, b ∈ es.take len → F [a, b] = some (.sc (.int .i64 (cd a b))))
    (ir : ∀ a, a ∈ es.take len → ¬ cd a a < 0)
    (tr : ∀ a, a ∈ es.take len → ∀ b, b ∈ es.take len → ∀ c, c ∈ es.take len → cd a b < 0 → cd b c < 0 → cd a c < 0)
    (nt : ∀ a, a ∈ es.take len → ∀ b, b ∈ es.take len → ∀ c, c ∈ es.take len → ¬ cd a b < 0 → ¬ cd b c < 0 → ¬ cd a c < 0)
    {K : V → SF → Prop} (hK : ∀ es' : List V, es'.Perm (es.take len) → es'.Pairwise (fun a b => ¬ cd b a < 0) → K (.tup []) ⟨s.τ, updH s.H id (.live k (es' ++ es.drop len) true), s.n⟩) :
    CallT P C f [.own id 0 len, .sc (.func (.func g) #[] #[])] s K := by
  refine ⟨hs.enters, fun tm w γ I args hS hal hrep => ?_⟩
  obtain ⟨a0, a1, rfl⟩ : ∃ a0 a1, args = #[a0, a1] := by
    rcases args with ⟨l⟩
    match l, hal with
    | [a0, a1], _ => exact ⟨a0, a1, rfl⟩
  have h0 := hrep 0 _ a0 rfl rfl
  have h1 := hrep 1 _ a1 rfl rfl
  have e1 := h1.sc_eq
  subst e1
  have empty : ∀ (A : Option Addr) (cap : Nat), len = 0 → a0 = .slice A 0 cap → Calls P f #[a0, .func (.func g) #[] #[]] w fun e w' => ∃ u v s', e = .returned u ∧ K v s' ∧ ∃ γ' I', Sim C γ' I' s.τ s'.H tm w' ∧ Rep I' w' γ' v u := by
    intro A cap hl ha
    subst ha
    refine (hs.none A cap _ w).mono ?_
    rintro e w' ⟨rfl, rfl⟩
    have h := hK [] (by simp [hl]) List.Pairwise.nil
    simp only [hl, List.drop_zero, List.nil_append] at h
    rw [show updH s.H id (.live k es true) = s.H from funext fun x => by unfold updH; split <;> rename_i hx <;> simp [hx, hH]] at h
    exact ⟨_, _, _, rfl, h, γ, I, hS, .tup _ _ _ rfl (by simp)⟩
  cases h0 with
  | own0 _ _ _ A => exact empty A 0 rfl rfl
  | own _ _ _ _ cap p c t m hp hcap hb hroom =>
    rcases Nat.eq_zero_or_pos len with hz | hpos
    · subst hz; exact empty _ cap rfl rfl
    rcases hS.obj id k es true hH with hn | ⟨p', c', t', ho⟩
    · rw [hn.2] at hp; cases hp
    have ep : p = p' := by have := ho.place; rw [hp] at this; exact Option.some.inj this
    subst ep
    rw [ho.blk] at hb
    cases hb
    have hsz := ho.size
    subst hsz
    simp only [Nat.zero_mul, Nat.add_zero]
    -- the row, by the numbers of its elements
    let enc : Nat → List Value := fun i => (List.range p.sz).map fun j => c.getD (p.off + (i % len) * p.sz + j) undef
    let d : Array Nat := Array.range len
    let el : Nat → V := fun i => es.getD (i % len) .any
    let cf : Nat → Nat → Int := fun x y => cd (el x) (el y)
    have hd : d.size = len := by simp [d]
    have hget : ∀ x, x < len → es[x]? = some (es.getD x .any) := fun x hx => sort_get es len hlen x hx
    have hml : ∀ x, x % len < len := fun x => Nat.mod_lt _ hpos
    have elm : ∀ x, el x ∈ es.take len := fun x => by
      refine List.mem_of_getElem? (i := x % len) ?_
      rw [List.getElem?_take, if_pos (hml x), hget _ (hml x)]
    have elk : ∀ x, (el x).cells.length = p.sz := fun x => ho.len _ (List.mem_of_mem_take (elm x))
    have cell : ∀ x j, j < p.sz → ∃ v u, (el x).cells[j]? = some v ∧ c[p.off + (x % len) * p.sz + j]? = some u ∧ Rep I w γ v u := fun x j hj => by
      have hlt : j < (el x).cells.length := by rw [elk]; exact hj
      have h1 : (el x).cells[j]? = some (el x).cells[j] := List.getElem?_eq_getElem hlt
      obtain ⟨u, h2, h3⟩ := ho.cell (x % len) j _ _ (hget _ (hml x)) h1
      exact ⟨_, u, h1, h2, h3⟩
    have encj : ∀ x j, j < p.sz → (enc x)[j]? = c[p.off + (x % len) * p.sz + j]? := fun x j hj => by
      obtain ⟨v, u, _, h2, _⟩ := cell x j hj
      have := (Array.getElem?_eq_some_iff.1 h2)
      simp only [enc, List.getElem?_map, List.getElem?_range hj, Option.map_some, Array.getD, this.1, dif_pos]
      rw [h2]
      simp [← this.2]
    have hk : ∀ x, (enc x).length = p.sz := fun x => by simp [enc]
    have h1c : ∀ x, ∀ v ∈ enc x, v.oneCell' = true := fun x v hv => by
      obtain ⟨j, hj⟩ := List.getElem?_of_mem hv
      have hjk : j < p.sz := by have := (List.getElem?_eq_some_iff.1 hj).1; rwa [hk] at this
      rw [encj x j hjk] at hj
      obtain ⟨v', u, h2, h3, h4⟩ := cell x j hjk
      rw [hj] at h3
      cases h3
      exact isFc_one h4 (isF_cell (hfx _ (elm x)) h2)
    have hO : SWO (Go.Proofs.ltOf cf) := ⟨fun x => by simpa [Go.Proofs.ltOf, cf] using ir _ (elm x), fun x y z h1 h2 => by
      simp only [Go.Proofs.ltOf, cf, decide_eq_true_eq] at h1 h2 ⊢
      exact tr _ (elm x) _ (elm y) _ (elm z) h1 h2, fun x y z h1 h2 => by
      simp only [Go.Proofs.ltOf, cf, decide_eq_false_iff_not] at h1 h2 ⊢
      exact nt _ (elm x) _ (elm y) _ (elm z) h1 h2⟩
    have hdm := hS.dom id p ho.place
    have hlive : (s.H id).isLive := by rw [hH]; trivial
    have hPres : ∀ (m : Nat) (os : Array Go.Obj) (dk : Array Nat), Pres I w (Go.Proofs.sortWorldK enc p.sz w p.blk p.off m dk os) := fun m os dk => by
      obtain ⟨k1, k2, k3⟩ := sortWorld_heap enc p.sz w p.blk p.off m dk os ho.blk
      refine ⟨fun g x hx => ?_, fun g c0 t0 m0 hg => ?_, fun g es n hx hg => ?_⟩
      · by_cases eg : g = p.blk
        · subst eg; exact absurd hx (ho.mutb rfl x)
        · simp [World.cell?, k2 g (hS.immS g x hx) eg]
      · by_cases eg : g = p.blk
        · subst eg; rw [ho.blk] at hg; cases hg; exact ⟨_, k1, by simp [putCells]⟩
        · exact ⟨c0, (k2 g (Array.getElem?_eq_some_iff.1 hg).1 eg).trans hg, rfl⟩
      · by_cases eg : g = p.blk
        · subst eg; exact absurd hx (ho.mutb rfl 0)
        · exact (k2 g (hS.immS g 0 hx) eg).trans hg
    have hBel : ∀ (m : Nat) (os : Array Go.Obj) (dk : Array Nat), Bel C.w0.heap.size C.w0 (Go.Proofs.sortWorldK enc p.sz w p.blk p.off m dk os) := fun m os dk => by
      obtain ⟨k1, k2, k3⟩ := sortWorld_heap enc p.sz w p.blk p.off m dk os ho.blk
      refine hS.below.trans ⟨rfl, rfl, rfl, k3, fun i hi => k2 i (by have := hS.below.size; omega) (by have := hdm.2.1; omega), ?_⟩
      show w.drawn ≤ w.drawn + m
      omega
    have hcmp : Go.Proofs.CmpLays P g #[] enc p.sz cf p.blk p.off d.size w := by
      intro m os dk hdk x y
      obtain ⟨cx, hcx⟩ := hag _ (elm x)
      obtain ⟨cy, hcy⟩ := hag _ (elm y)
      have rp : ∀ z cs, el z = .agg cs → Rep I (Go.Proofs.sortWorldK enc p.sz w p.blk p.off m dk os) noPlaces (.agg cs) (.agg (enc z).toArray) := fun z cs hz => by
        have hl : cs.length = p.sz := by have := elk z; rw [hz] at this; exact this
        refine .agg _ _ _ (by simp [hk, hl]) fun j v u hv hu => ?_
        have hj : j < p.sz := by have := (List.getElem?_eq_some_iff.1 hv).1; omega
        obtain ⟨v', u', e1, e2, e3⟩ := cell z j hj
        rw [hz] at e1
        have ev : v = v' := Option.some.inj (hv.symm.trans e1)
        subst ev
        have eu : u = u' := by
          have : (enc z)[j]? = some u := by simpa using hu
          rw [encj z j hj, e2] at this
          exact (Option.some.inj this).symm
        subst eu
        have hfc := isF_cell (hfx _ (elm z)) (by rw [hz]; exact hv : (el z).cells[j]? = some v)
        exact (e3.frozen hfc).mono (hPres m os dk) (fun _ _ h => h) fun _ _ h => h
      have hL : Laid.ok (Go.Proofs.sortWorldK enc p.sz w p.blk p.off m dk os) := Laid.keep (hBel m os dk).below C.laid
      refine (hc I _ #[.agg (enc x).toArray, .agg (enc y).toArray] [el x, el y] _ rfl ?_ ?_ hL (hF _ (elm x) _ (elm y))).mono ?_
      · intro j v u hv hu
        match j with
        | 0 => simp at hv hu; subst hv; subst hu; have := rp x cx hcx; rwa [← hcx] at this
        | 1 => simp at hv hu; subst hv; subst hu; have := rp y cy hcy; rwa [← hcy] at this
        | j + 2 => simp at hv
      · intro g x hx
        have := (sortWorld_heap enc p.sz w p.blk p.off m dk os ho.blk).2.2
        have := hS.immS g x hx
        omega
      · rintro e w' ⟨u, rfl, hb, hr⟩
        have := hr.sc_eq
        subst this
        exact ⟨rfl, bel_grow hb⟩
    have flat : ∀ (dk : Array Nat), dk.size = len → ∀ i j, i < len → j < p.sz → (flatK enc p.sz dk)[i * p.sz + j]? = (enc dk[i]!)[j]? := fun dk hdk i j hi hj => by
      have hlt : i * p.sz + j < dk.size * p.sz := by
        have := Nat.mul_le_mul_right p.sz (show i + 1 ≤ dk.size by omega)
        rw [Nat.add_mul, Nat.one_mul] at this
        omega
      have e1 : (i * p.sz + j) / p.sz = i := (blk_iff p.sz i _ (by omega)).1 ⟨by omega, by omega⟩
      have e2 : (i * p.sz + j) % p.sz = j := by rw [Nat.mod_eq_sub_div_mul, e1]; omega
      have h3 := get_flatK enc p.sz dk (i * p.sz + j) hlt
      rw [e1, e2] at h3
      rw [getElem!_pos _ _ (by simpa using hlt), getElem!_pos _ j (by rw [hk]; exact hj)] at h3
      rw [Array.getElem?_eq_getElem (by simpa using hlt), List.getElem?_eq_getElem (by rw [hk]; exact hj), h3]
    have hHolds : HoldsK enc p.sz w p.blk p.off d := by
      intro t ht
      have ht' : t < len * p.sz := by simpa [hd] using ht
      have hsp : 0 < p.sz := by rcases Nat.eq_zero_or_pos p.sz with h | h; · rw [h] at ht'; simp at ht'
                                · exact h
      have hi : t / p.sz < len := (Nat.div_lt_iff_lt_mul hsp).2 ht'
      have hj : t % p.sz < p.sz := Nat.mod_lt _ hsp
      have hte : t = t / p.sz * p.sz + t % p.sz := by rw [Nat.mul_comm]; exact (Nat.div_add_mod _ _).symm
      have hfl := flat d hd (t / p.sz) (t % p.sz) hi hj
      rw [← hte] at hfl
      have hdi : d[t / p.sz]! = t / p.sz := by rw [getElem!_pos _ _ (by rw [hd]; exact hi)]; simp [d]
      rw [hdi, encj _ _ hj, Nat.mod_eq_of_lt hi, Nat.add_assoc, ← hte, Array.getElem?_eq_getElem ht] at hfl
      constructor
      · rw [getElem!_pos (flatK enc p.sz d) t ht]
        simp only [World.cell?, ho.blk]
        simp only [Option.isSome_none, Bool.false_eq_true, if_false, _root_.id]
        exact hfl.symm
      · have hle : len * p.sz ≤ (0 + cap) * p.sz := Nat.mul_le_mul_right _ (by omega)
        exact ho.quiet.frozen ho.blk (by omega)
    have hrun := hs.some enc hk h1c cf hO g #[] p.blk p.off cap d w (fun args w => enters_run he args w) hcmp hHolds hdm.2.2 (by rw [hd]; exact h62)
    rw [hd] at hrun
    refine hrun.mono ?_
    rintro e w' ⟨rfl, d', m, os, hp', hso, rfl⟩
    obtain ⟨k1, k2, k3⟩ := sortWorld_heap enc p.sz w p.blk p.off m d' os ho.blk
    have hd's : d'.size = len := hp'.1.trans hd
    have hlt' : ∀ i, i < len → d'[i]! < len := fun i hi => by
      have hm : d'[i]! ∈ (d'.extract 0 len).toList := by
        rw [getElem!_pos _ _ (by omega)]
        simp [← hd's]
      have := hp'.2.2.mem_iff.1 hm
      simpa [d] using this
    refine ⟨_, .tup [], ⟨s.τ, updH s.H id (.live p.sz (d'.toList.map el ++ es.drop len) true), s.n⟩, rfl, hK _ ?_ ?_, γ, I, ?_, .tup _ _ _ rfl (by simp)⟩
    · have e1 : es.take len = (List.range len).map el := by
        apply List.ext_getElem?
        intro i
        rw [List.getElem?_take, List.getElem?_map]
        by_cases hi : i < len
        · rw [if_pos hi, List.getElem?_range hi, hget i hi]
          simp [el, Nat.mod_eq_of_lt hi]
        · rw [if_neg hi]; simp [hi]
      rw [e1]
      have := hp'.2.2
      have x1 : (d'.extract 0 len).toList = d'.toList := by simp [← hd's]
      have x2 : (d.extract 0 len).toList = List.range len := by simp [d]
      rw [x1, x2] at this
      exact this.map el
    · rw [List.pairwise_map, List.pairwise_iff_getElem]
      intro i j hi hj hij
      simp only [Array.length_toList] at hi hj
      have := hso i j (Nat.zero_le _) hij (by omega)
      rw [getElem!_pos d' i hi, getElem!_pos d' j hj] at this
      simpa [Go.Proofs.ltOf, cf] using this
    · have hP := hPres m os d'
      have hfs : (flatK enc p.sz d').size = len * p.sz := by simp [hd's]
      have w1 := sortWorld_heap enc p.sz w p.blk p.off m d' #[] ho.blk
      unfold Go.Proofs.sortWorldK at w1
      rw [grow_empty] at w1
      have z1 : (putRowK enc p.sz (Sort.ahead w m) p.blk p.off d').heap.size = w.heap.size := by simp [putRowK, Sort.ahead]
      have s1 : Sim C γ I s.τ (updH s.H id .dead) tm (Sort.ahead w m) := (hS.kill id).drawn (w.drawn + m) (by omega)
      have s2 : Sim C γ I s.τ (updH s.H id .dead) tm (putRowK enc p.sz (Sort.ahead w m) p.blk p.off d') :=
        s1.touch (c := c) hdm.2.1 (hS.idle hlive ho.place) ho.blk w1.1 (by simp [putCells]) (fun y hy => absurd hy (ho.mutb rfl y)) (fun i hi => by
          by_cases hlt : i < w.heap.size
          · exact w1.2.1 i hlt hi
          · rw [Array.getElem?_eq_none (by omega), Array.getElem?_eq_none (by show w.heap.size ≤ i; omega)]) z1 rfl rfl rfl rfl
      have s3 : Sim C γ I s.τ (updH s.H id .dead) tm (Go.Proofs.sortWorldK enc p.sz w p.blk p.off m d' os) :=
        s2.grow (w' := Go.Proofs.sortWorldK enc p.sz w p.blk p.off m d' os) (I' := I) ⟨rfl, rfl, rfl, by show _ ≤ (grow _ os).heap.size; simp, fun i hi => heap_grow_old _ os hi, Nat.le_refl _⟩ (fun _ _ h => h) fun _ _ h => .inl h
      have s4 := s3.revive (id := id) (sz := p.sz) (es := d'.toList.map el ++ es.drop len) (mu := true) (p := p) (c := putCells _root_.id p.off (flatK enc p.sz d') c) (t := t')
        (by rw [updH_updH]; exact hS.idle hlive ho.place) ⟨ho.place, rfl, k1, ?_, ?_, fun _ z hz => ho.mutb rfl z hz, by simp, by simpa [putCells] using ho.quiet⟩
      · rw [updH_updH] at s4; exact s4
      · intro e he
        rcases List.mem_append.1 he with h | h
        · obtain ⟨x, _, rfl⟩ := List.mem_map.1 h
          exact elk x
        · exact ho.len e (List.mem_of_mem_drop h)
      · intro i j e x he hx
        by_cases hi : i < len
        · rw [List.getElem?_append_left (by simp [hd's]; exact hi), List.getElem?_map, Array.getElem?_toList, Array.getElem?_eq_getElem (by omega)] at he
          simp only [Option.map_some, Option.some.injEq] at he
          subst he
          have hj : j < p.sz := by have := (List.getElem?_eq_some_iff.1 hx).1; rwa [elk] at this
          obtain ⟨v, u, e1, e2, e3⟩ := cell d'[i] j hj
          rw [hx] at e1
          cases e1
          obtain ⟨_, u0, _, e5, _⟩ := cell i j hj
          rw [Nat.mod_eq_of_lt hi] at e5
          refine ⟨u, ?_, e3.mono hP (fun _ _ h => h) fun _ _ h => h⟩
          have hfl := flat d' hd's i j hi hj
          rw [getElem!_pos _ _ (by omega), encj _ _ hj, e2] at hfl
          have hlt : i * p.sz + j < len * p.sz := by
            have := Nat.mul_le_mul_right p.sz (show i + 1 ≤ len by omega)
            rw [Nat.add_mul, Nat.one_mul] at this
            omega
          simp only [putCells, Array.getElem?_mapIdx, e5, Option.map_some]
          rw [if_pos (by rw [hfs]; omega), show p.off + i * p.sz + j - p.off = i * p.sz + j by omega, getElem!_pos _ _ (by rw [hfs]; exact hlt)]
          rw [Array.getElem?_eq_getElem (by rw [hfs]; exact hlt)] at hfl
          simpa using hfl
        · have hle : d'.toList.length = len := by simpa using hd's
          rw [List.getElem?_append_right (by simp [hd's]; omega), List.getElem?_drop] at he
          rw [List.length_map, hle, show len + (i - len) = i by omega] at he
          obtain ⟨u, e2, e3⟩ := ho.cell i j e x he hx
          refine ⟨u, ?_, e3.mono hP (fun _ _ h => h) fun _ _ h => h⟩
          have hge : len * p.sz ≤ i * p.sz := Nat.mul_le_mul_right _ (by omega)
          simp only [putCells, Array.getElem?_mapIdx, e2, Option.map_some]
          rw [if_neg (by rw [hfs]; omega)]
theorem SortK.sortT {f k : Nat} (h : SortK P f k) : SortT P f k :=
  fun C g he F hc s id len es cd hH hlen h62 hag hfx hF ir tr nt K hK => CallT.sort h he hc cd hH hlen h62 hag hfx hF ir tr nt hK
end
end Go.Idl
namespace Go.Proofs
open Go.Shelf
def Try.sortL_ren : Go.Shelf.Ren := ⟨fun | 6 => 67 | 15 => 77 | 14 => 76 | 28 => 88 | 29 => 89 | 20 => 80 | 21 => 81 | 22 => 82 | 23 => 83 | 24 => 84 | 25 => 85 | 26 => 86 | 27 => 87 | 46 => 90 | 47 => 91 | 48 => 92 | 49 => 93 | 50 => 94 | 57 => 95 | n => n, fun | 22 => 137 | 24 => 122 | 25 => 142 | 3 => 3 | 39 => 150 | 0 => 0 | 53 => 160 | 55 => 145 | 4 => 4 | 46 => 154 | 45 => 153 | 50 => 127 | 5 => 5 | 9 => 9 | 66 => 162 | 70 => 166 | 76 => 168 | 77 => 169 | n => n, fun | n => n⟩
theorem Try.sortL : Go.Proofs.SlLaysF0.n6 Try.prog Try.sortL_ren := {
  mixed := by kernel_rfl
  f6 := ⟨Try.f67.name, by decide, Try.func67.trans (congrArg some (by kernel_rfl))⟩
  f14 := ⟨Try.f76.name, by decide, Try.func76.trans (congrArg some (by kernel_rfl))⟩
  f15 := Try.func77.trans (congrArg some (by kernel_rfl))
  f20 := ⟨Try.f80.name, by decide, Try.func80.trans (congrArg some (by kernel_rfl))⟩
  f21 := ⟨Try.f81.name, by decide, Try.func81.trans (congrArg some (by kernel_rfl))⟩
  f22 := ⟨Try.f82.name, by decide, Try.func82.trans (congrArg some (by kernel_rfl))⟩
  f23 := ⟨Try.f83.name, by decide, Try.func83.trans (congrArg some (by kernel_rfl))⟩
  f24 := ⟨Try.f84.name, by decide, Try.func84.trans (congrArg some (by kernel_rfl))⟩
  f25 := ⟨Try.f85.name, by decide, Try.func85.trans (congrArg some (by kernel_rfl))⟩
  f26 := ⟨Try.f86.name, by decide, Try.func86.trans (congrArg some (by kernel_rfl))⟩
  f27 := ⟨Try.f87.name, by decide, Try.func87.trans (congrArg some (by kernel_rfl))⟩
  f28 := Try.func88.trans (congrArg some (by kernel_rfl))
  f29 := Try.func89.trans (congrArg some (by kernel_rfl))
  f46 := ⟨Try.f90.name, by decide, Try.func90.trans (congrArg some (by kernel_rfl))⟩
  f47 := Try.func91.trans (congrArg some (by kernel_rfl))
  f48 := Try.func92.trans (congrArg some (by kernel_rfl))
  f49 := ⟨Try.f93.name, by decide, Try.func93.trans (congrArg some (by kernel_rfl))⟩
  f50 := ⟨Try.f94.name, by decide, Try.func94.trans (congrArg some (by kernel_rfl))⟩
  f57 := ⟨Try.f95.name, by decide, Try.func95.trans (congrArg some (by kernel_rfl))⟩
  t0 := Try.underlying0
  a0 := Try.isAgg0
  z0 := Try.sizeOf0
  v0 := Try.zeroValue0
  t3 := Try.underlying3
  a3 := Try.isAgg3
  z3 := Try.sizeOf3
  v3 := Try.zeroValue3
  t4 := Try.underlying4
  a4 := Try.isAgg4
  z4 := Try.sizeOf4
  v4 := Try.zeroValue4
  t5 := Try.underlying5
  a5 := Try.isAgg5
  z5 := Try.sizeOf5
  v5 := Try.zeroValue5
  t9 := Try.underlying9
  a9 := Try.isAgg9
  z9 := Try.sizeOf9
  v9 := Try.zeroValue9
  t22 := Try.underlying137
  a22 := Try.isAgg137
  z22 := Try.sizeOf137
  v22 := Try.zeroValue137
  t25 := Try.underlying142
  a25 := Try.isAgg142
  z25 := Try.sizeOf142
  v25 := Try.zeroValue142
  t39 := Try.underlying150
  a39 := Try.isAgg150
  z39 := Try.sizeOf150
  v39 := Try.zeroValue150
  t45 := Try.underlying153
  a45 := Try.isAgg153
  z45 := Try.sizeOf153
  v45 := Try.zeroValue153
  t46 := Try.underlying154
  a46 := Try.isAgg154
  z46 := Try.sizeOf154
  v46 := Try.zeroValue154
  t50 := Try.underlying127
  a50 := Try.isAgg127
  z50 := Try.sizeOf127
  v50 := Try.zeroValue127
  t53 := Try.underlying160
  a53 := Try.isAgg160
  z53 := Try.sizeOf160
  v53 := Try.zeroValue160
  t55 := Try.underlying145
  a55 := Try.isAgg145
  z55 := Try.sizeOf145
  v55 := Try.zeroValue145
  t66 := Try.underlying162
  a66 := Try.isAgg162
  z66 := Try.sizeOf162
  v66 := Try.zeroValue162
  t70 := Try.underlying166
  a70 := Try.isAgg166
  z70 := Try.sizeOf166
  v70 := Try.zeroValue166
  t76 := Try.underlying168
  a76 := Try.isAgg168
  z76 := Try.sizeOf168
  v76 := Try.zeroValue168
  t77 := Try.underlying169
  a77 := Try.isAgg169
  z77 := Try.sizeOf169
  v77 := Try.zeroValue169 }
end Go.Proofs
namespace Go.Proofs.Ytalhbhbkdfmhgaa
open Go.Idl
theorem sortT : SortT Try.prog 67 7 := SortK.sortT ⟨by kernel_rfl, fun p cap fv w => Go.Proofs.AnyF.slices_SortFunc_none Try.sortL p cap fv w, fun enc hk h1 cf hO g cb blk off cap d w eg hcmp hH hblk hsz =>
  Go.Proofs.AnyQ.slices_SortFunc Try.sortL 7 Try.isAgg122 Try.sizeOf122 enc hk h1 cf hO g cb blk off cap d w eg hcmp hH hblk hsz⟩
end Go.Proofs.Ytalhbhbkdfmhgaa
