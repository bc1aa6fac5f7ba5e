/- The events of one transaction in a collection: plain. -/
import Derived.Test.YteocedfakgdckaaDoorOut19a
import Derived.Test.YteocedfakgdckaaDoorOrd19d
import Derived.Test.YteocedfakgdckaaDoorPut36
namespace Go.Proofs.YteocedfakgdckaaDoor
set_option linter.all false
open Go.Idl
set_option maxHeartbeats 4000000
def tS : ByteArray := ⟨#[83]⟩
def tT : ByteArray := ⟨#[83, 45, 49]⟩
structure Evs (E : List EvD) : Prop where
  ord : E.Pairwise good2
  len1 : 1 ≤ E.length
  len : E.length ≤ 60
  key : ∀ e, e ∈ E → e.station = tS ∧ e.txn = tT
  seq : ∀ (i : Nat) e, E[i]? = some e → e.seq = (i : Int)
  fin : endE E = true
  sav : SavOk ⟨64, E, 0⟩
theorem Evs.enc {E : List EvD} (h : Evs E) {e : EvD} (he : e ∈ E) : EncOk e := h.sav.ev e he
theorem Evs.ev {E : List EvD} (h : Evs E) {e : EvD} (he : e ∈ E) : evS e = 0 := (h.enc he).ev
theorem Evs.coll {E : List EvD} (h : Evs E) : Coll E := ⟨fun e he => h.ev he, h.ord, by have := h.len; omega⟩
theorem Evs.keyE {E : List EvD} (h : Evs E) {e : EvD} (he : e ∈ E) : keyE e = ⟨tS, tT, e.seq⟩ := by
  obtain ⟨h1, h2⟩ := h.key e he
  unfold Go.Proofs.YteocedfakgdckaaDoor.keyE
  rw [h1, h2]
theorem srt_of {E l : List EvD} (h : Evs E) (hC : Coll l) (hs : ∀ x, x ∈ l → x ∈ E) : l.Pairwise fun a b => a.seq < b.seq := by
  refine hC.ord.imp_of_mem fun {a b} ha hb hab => ?_
  rcases (bef_iff a b).1 hab.1 with h1 | h1
  · rw [h.keyE (hs a ha), h.keyE (hs b hb)] at h1
    have hz : cmpT (⟨tS, tT, a.seq⟩ : KeyD) ⟨tS, tT, b.seq⟩ = 0 := cmpT_eq.2 ⟨rfl, rfl⟩
    omega
  · exact h1.2
theorem Evs.ordE {E : List EvD} (h : Evs E) : OrdE E := ⟨h.len1, by have := h.len; omega, fun x hx => h.ev hx, fun x y hx hy => keyEq_iff.2 ⟨(h.key x hx).1.trans (h.key y hy).1.symm, (h.key x hx).2.trans (h.key y hy).2.symm⟩, srt_of h h.coll fun _ hx => hx⟩
theorem set_eq {E l : List EvD} (h : Evs E) (hC : Coll l) (hs : ∀ x, x ∈ l ↔ x ∈ E) : l = E :=
  srt_eq (srt_of h hC fun x hx => (hs x).1 hx) (srt_of h h.coll fun _ hx => hx) hs
open Classical in
theorem len_le {E l : List EvD} (h : Evs E) (hC : Coll l) (hs : ∀ x, x ∈ l → x ∈ E) : l.length ≤ E.length := by
  have h1 : l = E.filter fun x => decide (x ∈ l) := by
    refine srt_eq (srt_of h hC hs) ((srt_of h h.coll fun _ hx => hx).filter _) fun x => ?_
    rw [List.mem_filter, decide_eq_true_eq]
    exact ⟨fun hx => ⟨hs x hx, hx⟩, fun hx => hx.2⟩
  rw [h1]
  exact List.length_filter_le _ _
theorem contra_self (e : EvD) : contra e e = false := by simp [contra]
theorem no_contra {E : List EvD} (h : Evs E) {x y : EvD} (hx : x ∈ E) (hy : y ∈ E) : one x y = true → contra x y = false := by
  have hsym : ∀ a b : EvD, (one a b = true → contra a b = false) → one b a = true → contra b a = false := fun a b h1 h2 => by
    rw [contra_comm]
    exact h1 (by rw [one_comm]; exact h2)
  have hp : E.Pairwise fun a b => one a b = true → contra a b = false := h.ord.imp fun h => h.2
  have key : ∀ (l : List EvD), (l.Pairwise fun a b => one a b = true → contra a b = false) → ∀ x, x ∈ l → ∀ y, y ∈ l → one x y = true → contra x y = false := by
    intro l
    induction l with
    | nil => intro _ x hx; cases hx
    | cons a l ih =>
      intro hl x hx y hy
      obtain ⟨h1, h2⟩ := List.pairwise_cons.1 hl
      rcases List.mem_cons.1 hx with hxa | hx'
      · rcases List.mem_cons.1 hy with hya | hy'
        · rw [hxa, hya]; intro _; exact contra_self _
        · rw [hxa]; exact h1 y hy'
      · rcases List.mem_cons.1 hy with hya | hy'
        · rw [hya]; exact hsym _ _ (h1 x hx')
        · exact ih h2 x hx' y hy'
  exact key E hp x hx y hy
theorem put_in {E l : List EvD} {e : EvD} (h : Evs E) (hC : Coll l) (hs : ∀ x, x ∈ l → x ∈ E) (he : e ∈ E) :
    (e ∈ l ∧ putS l e = (l, 9)) ∨ ∃ l', putS l e = (l', 0) ∧ Coll l' ∧ (∀ x, x ∈ l' ↔ x ∈ l ∨ x = e) := by
  have hcoll := putR_coll hC e
  rw [putS_eq hC]
  have hl := len_le h hC hs
  have hl2 := h.len
  have hev : (evS e != 0) = false := by rw [h.ev he]; rfl
  unfold putR at hcoll ⊢
  rw [hev] at hcoll ⊢
  simp only [cond_false] at hcoll ⊢
  cases hf : l.find? (hitR e) with
  | some x =>
    rw [hf] at hcoll
    have hx := List.mem_of_find?_eq_some hf
    have hk := hit_key.1 (List.find?_some hf)
    have hxe : x = e := h.coll.uniq (hs x hx) he hk
    subst hxe
    refine .inl ⟨hx, ?_⟩
    dsimp only
    have : sameE x x = true := sameE_iff.2 rfl
    rw [this]; rfl
  | none =>
    rw [hf] at hcoll
    dsimp only at hcoll ⊢
    have hany : (l.any fun x => one x e && contra x e) = false := by
      rw [List.any_eq_false]
      intro x hx
      cases ho : one x e with
      | false => simp
      | true => simp [no_contra h (hs x hx) he ho]
    have hlen : decide (l.length ≥ 4096) = false := by simp; omega
    rw [hany, hlen] at hcoll ⊢
    simp only [cond_false] at hcoll ⊢
    refine .inr ⟨_, rfl, hcoll, fun x => ?_⟩
    rw [List.mem_append, List.mem_append, List.mem_singleton]
    conv => rhs; rw [← List.take_append_drop (atR l e) l, List.mem_append]
    constructor
    · rintro ((h1 | h1) | h1)
      · exact .inl (.inl h1)
      · exact .inr h1
      · exact .inl (.inr h1)
    · rintro ((h1 | h1) | h1)
      · exact .inl (.inl h1)
      · exact .inr h1
      · exact .inl (.inr h1)
theorem seg_all {E : List EvD} (h : Evs E) : segB E (kAt tS tT) = E := by
  rw [seg_filter h.coll, List.filter_eq_self]
  intro x hx
  obtain ⟨h1, h2⟩ := h.key x hx
  show (cmpT (keyE x) (kAt tS tT) == 0) = true
  rw [beq_iff_eq]
  exact cmpT_eq.2 ⟨h1, h2⟩
theorem grt_le {a : List EvD} {M : Int} (hM : -1 ≤ M) (h : ∀ e, e ∈ a → e.seq ≤ M) : grt a ≤ M := by
  have key : ∀ (a : List EvD) (g : Int), g ≤ M → (∀ e, e ∈ a → e.seq ≤ M) → a.foldl (fun g e => max g e.seq) g ≤ M := by
    intro a
    induction a with
    | nil => intro g hg _; exact hg
    | cons e a ih =>
      intro g hg h
      have := h e (by simp)
      exact ih _ (by dsimp only; omega) fun x hx => h x (List.mem_cons_of_mem _ hx)
  exact key a (-1) hM h
theorem miss_none {E : List EvD} (h : Evs E) : (nums (pI E tS tT) (grt E).toNat).take 256 = [] := by
  have hg : grt E ≤ (E.length : Int) - 1 := grt_le (by have := h.len1; omega) fun e he => by
    obtain ⟨i, hi⟩ := List.getElem?_of_mem he
    have h1 := h.seq i e hi
    have h2 := (List.getElem?_eq_some_iff.1 hi).1
    omega
  have h0 : nums (pI E tS tT) (grt E).toNat = [] := by
    unfold nums
    rw [List.map_eq_nil_iff, List.filter_eq_nil_iff]
    intro n hn
    rw [List.mem_range] at hn
    have hlt : n < E.length := by omega
    have hmem : E[n] ∈ E := List.getElem_mem hlt
    have hseq := h.seq n E[n] (List.getElem?_eq_getElem hlt)
    have hk := h.keyE hmem
    rw [hseq] at hk
    unfold pI
    cases hlk : lookM (idxE E) (⟨tS, tT, (n : Int)⟩ : KeyD) with
    | none => exact absurd hk (look_idx0 hlk _ hmem)
    | some x => simp
  rw [h0]; rfl
end Go.Proofs.YteocedfakgdckaaDoor
namespace Go.Proofs.YteocedfakgdckaaDoor
set_option linter.all false
open Go.Idl
set_option maxHeartbeats 32000000
set_option maxRecDepth 100000
theorem agRec19 : agOf Tryd.prog 39 = some (some 11) := by kernel_rfl
attribute [local go_sem] Tryd.underlying3 Tryd.underlying5 Tryd.underlying141 Tryd.underlying9 Tryd.underlying4 agInt agErr agFs Tryd.underlying22 agEv19 agObx agRec19
open Classical in
noncomputable abbrev SDel : List V → Option V := FT fun (t : List EvD × List (KInt .u8) × Unit) => if Evs t.1 ∧ t.2.1.length ≤ 60 then some ((makeS t.1 100000).1, (makeS t.1 100000).2 == 0) else none
structure PuL where
  pre : List EvD
  n : Nat
  H : Heap
structure PuInv (o0 : Idl.Obj) (l xs : List EvD) (p : PuL) : Prop where
  eq : l = p.pre ++ xs
  h0 : p.H 0 = o0
  h1 : p.H 1 = .live 3 [.agg [.sc (.int .i64 64), .slice 10 (p.pre.map Cod.enc), .sc (.int .i64 0)]] true
  n2 : 2 ≤ p.n
  un : ∀ k, p.H (p.n + k) = .unborn
structure SeL where
  pre : List EvD
  xs : List EvD
  lo : Option Nat
  n : Nat
  H : Heap
structure SeInv (o0 : Idl.Obj) (l : List EvD) (p : SeL) : Prop where
  eq : l = p.pre ++ p.xs
  h0 : p.H 0 = o0
  h1 : p.H 1 = .live 3 [.agg [.sc (.int .i64 64), .slice 10 (p.xs.map Cod.enc), .sc (.int .i64 0)]] true
  lv : match p.lo with | none => p.pre = [] | some id => 1 < id ∧ id < p.n ∧ p.H id = .live 10 (p.pre.map Cod.enc) true
  n2 : 2 ≤ p.n
  un : ∀ k, p.H (p.n + k) = .unborn
structure FiL where
  l : List EvD
  v : V
  pre : List EvD
  n : Nat
  H : Heap
structure FiInv (o0 : Idl.Obj) (E : List EvD) (sid : Nat) (xs : List EvD) (p : FiL) : Prop where
  eq : E = p.pre ++ xs
  co : Coll p.l
  sub : ∀ x, x ∈ p.l → x ∈ E
  vv : p.v = Cod.enc p.l ∨ (p.v = .sc (.slice none 0 0) ∧ p.l = [])
  all : ∀ x, x ∈ p.pre → x ∈ p.l
  h0 : p.H 0 = o0
  hs : p.H sid = .live 10 (E.map Cod.enc) true
  sn : 1 < sid ∧ sid < p.n
  un : ∀ k, p.H (p.n + k) = .unborn
theorem tS_def : tS = ⟨#[83]⟩ := rfl
theorem tT_def : tT = ⟨#[83, 45, 49]⟩ := rfl
theorem con8 {Φ : Specs} (hg : Idl.Good Tryd.prog Φ) (h20 : Φ 20 = some SNew) (h21 : Φ 21 = some SPush) (h22 : Φ 22 = some SSav) (h23 : Φ 23 = some SLod) (h24 : Φ 24 = some SHead) (h25 : Φ 25 = some SEnc) (h26 : Φ 26 = some SDec) (h27 : Φ 27 = some SAck)
    (h28 : Φ 28 = some SPut) (h29 : Φ 29 = some SMissI) (h30 : Φ 30 = some SOf) (h7 : Φ 7 = some SMake) : Contract Tryd.prog 8 SDel := by
  refine conT hg k8 ic8 (by decide) fun C t r h => ?_
  obtain ⟨E, ord, u⟩ := t
  dsimp only at h
  split at h
  case isFalse => cases h
  rename_i hh
  obtain ⟨hE, hord⟩ := hh
  obtain rfl := Option.some.inj h
  have hl60 := hE.len
  have d0 : ((0 : Int) != 0) = false := rfl
  have q1 : (4 : Int) ≤ 64 := by decide
  have q2 : (64 : Int) ≤ 256 := by decide
  simp +contextual only [go_sem, ↓reduceIte, Nat.reduceEqDiff, Nat.reduceAdd, Nat.reduceLeDiff, Nat.reduceLT, reduceCtorEq, c8, k8, h20, q1, q2, d0, List.length_map, List.map_nil]
  obtain ⟨o0, ho0⟩ : ∃ o : Idl.Obj, o = .live 11 [.agg [.sc (.string ⟨#[]⟩), .sc (.string ⟨#[]⟩), .sc (.int .i64 0), .sc (.string ⟨#[]⟩), .sc (.int .i64 0), .sc (.int .i64 0), .sc (.slice none 0 0), .sc (.int .i64 0), .sc (.int .i64 0), .sc (.bool false), .sc (.bool false)]] true := ⟨_, rfl⟩
  refine triH fun H1 hH1 => ?_
  have hen : ∀ e, e ∈ E → EncOk e := fun e he => hE.enc he
  have hev : ∀ e, e ∈ E → evS e = 0 := fun e he => hE.ev he
  have hrd : ∀ e, e ∈ E → e.rds.length ≤ 1000000 := fun e he => by have := (hen e he).rs.2.1; omega
  refine TriI.loopL hg k8 E (fun i (p : PuL) => ⟨slotsL [(0, Cod.enc E), (1, Cod.enc ord), (4, .ref 0 0 0), (6, .ref 1 0 0), (35, Cod.enc E), (36, .sc (.int .i64 E.length)), (37, .sc (.int .i64 i))], p.H, p.n⟩) (PuInv o0 E) ⟨[], 3, H1⟩ (.slots ?_) ⟨rfl, by dsimp only; rw [hH1, ho0]; rfl, by dsimp only; rw [hH1]; rfl, by dsimp only; omega, fun k => by dsimp only; rw [hH1]; (repeat (refine (updH_ne (by omega)).trans ?_)); rfl⟩ ?_ ?_
  · simp +contextual only [go_sem, ↓reduceIte, Nat.reduceEqDiff, Nat.reduceAdd, Nat.reduceLeDiff, Nat.reduceLT, reduceCtorEq, List.length_map]
    rfl
  · rintro ⟨pre, n, H⟩ ⟨g1, g2, g3, g4, g5⟩
    dsimp only at g1 g2 g3 g4 g5 ⊢
    rw [List.append_nil] at g1
    subst g1
    have hsav := hE.sav
    have q3 : oboB (encO ⟨64, E, 0⟩) := ⟨_, hsav, rfl⟩
    have q4 := decO_enc hsav
    obtain ⟨BB, hBB⟩ : ∃ BB, BB = encO ⟨64, E, 0⟩ := ⟨_, rfl⟩
    rw [← hBB] at q3 q4
    simp +contextual only [go_sem, ↓reduceIte, Nat.reduceEqDiff, Nat.reduceAdd, Nat.reduceLeDiff, Nat.reduceLT, reduceCtorEq, k8, Int.lt_irrefl, decide_false, g3, h22, hsav, ← hBB, d0, h23, q3, q4, isF_ev19, decL_enc Cod.dec_enc]
    refine triH fun H2 hH2 => ?_
    refine TriI.loopA hg k8 (fun p : SeL => ⟨slotsL [(0, Cod.enc E), (1, Cod.enc ord), (4, .ref 0 0 0), (6, .ref 1 0 0), (11, lvV p.lo p.pre.length)], p.H, p.n⟩) (SeInv o0 E) (fun p => p.xs.length) ⟨[], E, none, n, H2⟩ (.slots ?_) ⟨rfl, by dsimp only; rw [hH2]; exact (updH_ne (by omega)).trans g2, by dsimp only; rw [hH2]; exact updH_at, rfl, g4, fun k => by dsimp only; rw [hH2]; exact (updH_ne (by omega)).trans (g5 k)⟩ ?_
    · simp +contextual only [go_sem, ↓reduceIte, Nat.reduceEqDiff, Nat.reduceAdd, Nat.reduceLeDiff, Nat.reduceLT, reduceCtorEq, lvV]
    · clear hH2 H2 g2 g3 g4 g5
      rintro ⟨pre, xs, lo, n, H⟩ ⟨g1, g2, g3, g4, g5, g6⟩
      dsimp only at g1 g2 g3 g4 g5 g6 ⊢
      have hu : H n = .unborn := g6 0
      have hun := g6
      cases xs with
      | nil =>
        rw [List.append_nil] at g1
        subst g1
        cases lo with
        | none =>
          have h0 : E = [] := g4
          have := hE.len1
          rw [h0] at this
          simp at this
        | some sid =>
          obtain ⟨s1, s2, s3⟩ := g4
          have d5 : ((E.length : Int) != (E.length : Int)) = false := bne_self_eq_false _
          simp +contextual only [go_sem, ↓reduceIte, Nat.reduceEqDiff, Nat.reduceAdd, Nat.reduceLeDiff, Nat.reduceLT, reduceCtorEq, k8, g3, h24, z0E, lvV, hu, hun, d5, List.map_nil, List.length_map]
          refine triH fun H3 hH3 => ?_
          have k0 : H3 0 = o0 := by
            rw [hH3]
            (repeat (refine (updH_ne (by omega)).trans ?_))
            exact g2
          have ks : H3 sid = .live 10 (E.map Cod.enc) true := by
            rw [hH3]
            (repeat (refine (updH_ne (by omega)).trans ?_))
            exact s3
          have ku : ∀ k, H3 (n + 2 + k) = .unborn := fun k => by
            rw [hH3]
            (repeat (refine (updH_ne (by omega)).trans ?_))
            exact (congrArg H (Nat.add_assoc _ _ _)).trans (hun _)
          clear hH3
          have szk : Cod.sz (KInt .u8) = 1 := rfl
          have hEl : 1 ≤ E.length := hE.len1
          refine TriI.loopL hg k8 ord (fun i (p : List EvD × V) => ⟨slotsL [(4, .ref 0 0 0), (11, .own sid 0 E.length), (16, p.2), (119, Cod.enc ord), (120, .sc (.int .i64 ord.length)), (121, .sc (.int .i64 i))], H3, n + 2⟩) (fun _ p => Coll p.1 ∧ (∀ x, x ∈ p.1 → x ∈ E) ∧ (p.2 = Cod.enc p.1 ∨ (p.2 = .sc (.slice none 0 0) ∧ p.1 = []))) ([], .sc (.slice none 0 0)) (.slots ?_) ⟨⟨by simp, .nil, by simp⟩, by simp, .inr ⟨rfl, rfl⟩⟩ ?_ ?_
          · simp +contextual only [go_sem, ↓reduceIte, Nat.reduceEqDiff, Nat.reduceAdd, Nat.reduceLeDiff, Nat.reduceLT, reduceCtorEq, List.length_map]
            rfl
          · rintro ⟨l, v⟩ ⟨c1, c2, c3⟩
            dsimp only at c1 c2 c3 ⊢
            simp +contextual only [go_sem, ↓reduceIte, Nat.reduceEqDiff, Nat.reduceAdd, Nat.reduceLeDiff, Nat.reduceLT, reduceCtorEq, k8, Int.lt_irrefl, decide_false, List.length_map]
            refine TriI.loopL hg k8 E (fun i (p : FiL) => ⟨slotsL [(4, .ref 0 0 0), (16, p.v), (145, .own sid 0 E.length), (146, .sc (.int .i64 E.length)), (147, .sc (.int .i64 i))], p.H, p.n⟩) (FiInv o0 E sid) ⟨l, v, [], n + 2, H3⟩ (.slots ?_) ⟨rfl, c1, c2, c3, by simp, k0, ks, by dsimp only; omega, ku⟩ ?_ ?_
            · simp +contextual only [go_sem, ↓reduceIte, Nat.reduceEqDiff, Nat.reduceAdd, Nat.reduceLeDiff, Nat.reduceLT, reduceCtorEq]
              rfl
            · rintro ⟨l, v, pre, n2, H2⟩ ⟨g1', f1, f2, f3, f4, f5, f6, f7, f8⟩
              dsimp only at g1' f1 f2 f3 f4 f5 f6 f7 f8 ⊢
              rw [List.append_nil] at g1'
              have hlE : l = E := set_eq hE f1 fun z => ⟨f2 z, fun hz => f4 z (by rw [← g1']; exact hz)⟩
              rcases f3 with rfl | ⟨rfl, h0⟩
              · rw [hlE]
                have hcol : colS E = 0 := colS_ok.2 hE.coll
                have e3 := miss_none hE
                have e4 := seg_all hE
                have e5 := hE.fin
                have d8 : decide ((((0 : Nat) : Int)) > 0) = false := rfl
                have l5 : E.length ≤ 100000 := by omega
                have hOE := hE.ordE
                obtain ⟨⟨rec, err⟩, hR⟩ : ∃ R, R = makeS E 100000 := ⟨_, rfl⟩
                rw [← hR]
                have hu2 : H2 n2 = .unborn := f8 0
                rw [ho0] at f5
                have y0 : (0 = n2) = False := by simp; omega
                have y1 : ∀ k, (0 = n2 + k) = False := fun k => by simp; omega
                simp +contextual only [go_sem, ↓reduceIte, Nat.reduceEqDiff, Nat.reduceAdd, Nat.reduceLeDiff, Nat.reduceLT, reduceCtorEq, k8, Int.lt_irrefl, decide_false, h29, hcol, ← tS_def, ← tT_def, e3, e4, e5, d8, h30, h7, l5, hOE, ← hR, hu2, f8, f5, y0, y1, isF_ev19, isF_rds, tk_rds, tk_ev19, List.length_nil, List.map_nil, decL_enc Cod.dec_enc]
              · exfalso
                rw [hlE] at h0
                rw [h0] at hEl
                simp at hEl
            · rintro i ⟨l, v, pre, n2, H2⟩ x xs hd hlt hx ⟨g1', f1, f2, f3, f4, f5, f6, f7, f8⟩
              dsimp only at g1' f1 f2 f3 f4 f5 f6 f7 f8 ⊢
              have hw := wrap_nat hlt (by omega)
              have hyE : x ∈ E := by rw [g1']; simp
              have hu2 : H2 n2 = .unborn := f8 0
              have hi3 : (i : Int) < (E.length : Int) := by omega
              have fin : ∀ (l' : List EvD) (v' : V), Coll l' → (∀ z, z ∈ l' → z ∈ E) → (v' = Cod.enc l' ∨ (v' = .sc (.slice none 0 0) ∧ l' = [])) → (∀ z, z ∈ pre ++ [x] → z ∈ l') → ∀ H' : Heap, H' = updH (updH H2 n2 (.live 10 [evV z0E (.sc (.slice none 0 0))] true)) n2 (.live 10 [evV x (.slice 2 (x.rds.map Cod.enc))] true) → FiInv o0 E sid xs ⟨l', v', pre ++ [x], n2 + 2, H'⟩ := fun l' v' a1 a2 a3 a4 H' hH' => by
                refine ⟨by rw [g1']; simp, a1, a2, a3, a4, ?_, ?_, by dsimp only; omega, fun k => ?_⟩
                · dsimp only
                  rw [hH']
                  (repeat (refine (updH_ne (by omega)).trans ?_))
                  exact f5
                · dsimp only
                  rw [hH']
                  (repeat (refine (updH_ne (by omega)).trans ?_))
                  exact f6
                · dsimp only
                  rw [hH']
                  (repeat (refine (updH_ne (by omega)).trans ?_))
                  exact (congrArg H2 (Nat.add_assoc _ _ _)).trans (f8 _)
              have hput := put_in hE f1 f2 hyE
              have hcol : colS l = 0 := colS_ok.2 f1
              rcases hput with ⟨p1, p2⟩ | ⟨l', p2, p3, p4⟩
              · have d6 : ((9 : Int) == 0) = false := rfl
                have hall : ∀ z, z ∈ pre ++ [x] → z ∈ l := fun z hz => by
                  rcases List.mem_append.1 hz with hz | hz
                  · exact f4 z hz
                  · rw [List.mem_singleton.1 hz]; exact p1
                rcases f3 with rfl | ⟨rfl, rfl⟩
                · simp +contextual only [go_sem, ↓reduceIte, Nat.reduceEqDiff, Nat.reduceAdd, Nat.reduceLeDiff, Nat.reduceLT, reduceCtorEq, k8, lt_dec hlt, hi3, hx, hw, f6, hu2, f8, List.getElem?_map, Option.map_some, Int.natCast_nonneg, Int.toNat_natCast, List.length_map, Nat.zero_add, h28, hcol, p2, d6, isF_ev19, isF_rds, tk_rds, tk_ev19, decL_enc Cod.dec_enc]
                  refine againH fun H' hH' => ?_
                  exact ⟨⟨l, Cod.enc l, pre ++ [x], n2 + 2, H'⟩, fin l (Cod.enc l) f1 f2 (.inl rfl) hall H' hH', .slots (by simp +contextual only [go_sem, ↓reduceIte, Nat.reduceEqDiff, Nat.reduceAdd, Nat.reduceLeDiff, Nat.reduceLT, reduceCtorEq])⟩
                · exact absurd p1 (by simp)
              · have d6 : ((0 : Int) == 0) = true := rfl
                have hsub : ∀ z, z ∈ l' → z ∈ E := fun z hz => ((p4 z).1 hz).elim (f2 z) fun h => by rw [h]; exact hyE
                have hall : ∀ z, z ∈ pre ++ [x] → z ∈ l' := fun z hz => by
                  rcases List.mem_append.1 hz with hz | hz
                  · exact (p4 z).2 (.inl (f4 z hz))
                  · exact (p4 z).2 (.inr (List.mem_singleton.1 hz))
                rcases f3 with rfl | ⟨rfl, rfl⟩
                · simp +contextual only [go_sem, ↓reduceIte, Nat.reduceEqDiff, Nat.reduceAdd, Nat.reduceLeDiff, Nat.reduceLT, reduceCtorEq, k8, lt_dec hlt, hi3, hx, hw, f6, hu2, f8, List.getElem?_map, Option.map_some, Int.natCast_nonneg, Int.toNat_natCast, List.length_map, Nat.zero_add, h28, hcol, p2, d6, isF_ev19, isF_rds, tk_rds, tk_ev19, decL_enc Cod.dec_enc]
                  refine againH fun H' hH' => ?_
                  exact ⟨⟨l', Cod.enc l', pre ++ [x], n2 + 2, H'⟩, fin l' (Cod.enc l') p3 hsub (.inl rfl) hall H' hH', .slots (by simp +contextual only [go_sem, ↓reduceIte, Nat.reduceEqDiff, Nat.reduceAdd, Nat.reduceLeDiff, Nat.reduceLT, reduceCtorEq])⟩
                · simp +contextual only [go_sem, ↓reduceIte, Nat.reduceEqDiff, Nat.reduceAdd, Nat.reduceLeDiff, Nat.reduceLT, reduceCtorEq, k8, lt_dec hlt, hi3, hx, hw, f6, hu2, f8, List.getElem?_map, Option.map_some, Int.natCast_nonneg, Int.toNat_natCast, List.length_map, Nat.zero_add, h28, hcol, p2, d6, isF_ev19, isF_rds, tk_rds, tk_ev19, decL_enc Cod.dec_enc]
                  refine againH fun H' hH' => ?_
                  exact ⟨⟨l', Cod.enc l', pre ++ [x], n2 + 2, H'⟩, fin l' (Cod.enc l') p3 hsub (.inl rfl) hall H' hH', .slots (by simp +contextual only [go_sem, ↓reduceIte, Nat.reduceEqDiff, Nat.reduceAdd, Nat.reduceLeDiff, Nat.reduceLT, reduceCtorEq])⟩
          · rintro i ⟨l, v⟩ x xs hd hlt hx ⟨c1, c2, c3⟩
            dsimp only at c1 c2 c3 ⊢
            have hw := wrap_nat hlt (by omega)
            have hm0 : 0 ≤ x.1 ∧ x.1 ≤ 255 := x.2
            obtain ⟨m, hm⟩ : ∃ m, m = x.1 := ⟨_, rfl⟩
            rw [← hm] at hm0
            have w3 : IntKind.i64.wrap m = m := by rw [IntKind.wrap_i64]; omega
            have zl : ((E.length : Int) = 0) = False := eq_false (by omega)
            obtain ⟨y, hy⟩ : ∃ y : Nat, m.tmod (E.length : Int) = (y : Int) ∧ y < E.length := by
              have h1 := Int.tmod_nonneg (E.length : Int) hm0.1
              have h2 := Int.tmod_lt_of_pos m (show (0 : Int) < (E.length : Int) by omega)
              exact ⟨(m.tmod (E.length : Int)).toNat, (Int.toNat_of_nonneg h1).symm, (Int.toNat_lt h1).2 h2⟩
            obtain ⟨hy1, hy2⟩ := hy
            have hy3 : (y : Int) < (E.length : Int) := by omega
            obtain ⟨e, he⟩ : ∃ e, E[y]? = some e := ⟨E[y], List.getElem?_eq_getElem hy2⟩
            have hyE : e ∈ E := List.mem_of_getElem? he
            have hput := put_in hE c1 c2 hyE
            have hcol : colS l = 0 := colS_ok.2 c1
            rcases hput with ⟨p1, p2⟩ | ⟨l', p2, p3, p4⟩
            · have d6 : ((9 : Int) == 0) = false := rfl
              have d7 : ((9 : Int) != 9) = false := rfl
              rcases c3 with rfl | ⟨rfl, rfl⟩
              · simp +contextual only [go_sem, ↓reduceIte, Nat.reduceEqDiff, Nat.reduceAdd, Nat.reduceLeDiff, Nat.reduceLT, reduceCtorEq, k8, lt_dec hlt, hx, ← hm, hw, w3, szk, zl, ne_eq, not_false_eq_true, hy1, he, ks, List.getElem?_map, Option.map_some, Int.natCast_nonneg, Int.toNat_natCast, List.length_map, Nat.zero_add, hy2, hy3, h28, hcol, p2, d6, d7, isF_ev19, isF_rds, tk_rds, tk_ev19, decL_enc Cod.dec_enc]
                exact ⟨(l, Cod.enc l), ⟨c1, c2, .inl rfl⟩, .slots (by simp +contextual only [go_sem, ↓reduceIte, Nat.reduceEqDiff, Nat.reduceAdd, Nat.reduceLeDiff, Nat.reduceLT, reduceCtorEq])⟩
              · simp +contextual only [go_sem, ↓reduceIte, Nat.reduceEqDiff, Nat.reduceAdd, Nat.reduceLeDiff, Nat.reduceLT, reduceCtorEq, k8, lt_dec hlt, hx, ← hm, hw, w3, szk, zl, ne_eq, not_false_eq_true, hy1, he, ks, List.getElem?_map, Option.map_some, Int.natCast_nonneg, Int.toNat_natCast, List.length_map, Nat.zero_add, hy2, hy3, h28, hcol, p2, d6, d7, isF_ev19, isF_rds, tk_rds, tk_ev19, decL_enc Cod.dec_enc]
                exact ⟨([], .sc (.slice none 0 0)), ⟨c1, c2, .inr ⟨rfl, rfl⟩⟩, .slots (by simp +contextual only [go_sem, ↓reduceIte, Nat.reduceEqDiff, Nat.reduceAdd, Nat.reduceLeDiff, Nat.reduceLT, reduceCtorEq])⟩
            · have d6 : ((0 : Int) == 0) = true := rfl
              rcases c3 with rfl | ⟨rfl, rfl⟩
              · simp +contextual only [go_sem, ↓reduceIte, Nat.reduceEqDiff, Nat.reduceAdd, Nat.reduceLeDiff, Nat.reduceLT, reduceCtorEq, k8, lt_dec hlt, hx, ← hm, hw, w3, szk, zl, ne_eq, not_false_eq_true, hy1, he, ks, List.getElem?_map, Option.map_some, Int.natCast_nonneg, Int.toNat_natCast, List.length_map, Nat.zero_add, hy2, hy3, h28, hcol, p2, d6, isF_ev19, isF_rds, tk_rds, tk_ev19, decL_enc Cod.dec_enc]
                exact ⟨(l', Cod.enc l'), ⟨p3, fun z hz => ((p4 z).1 hz).elim (c2 z) fun h => by rw [h]; exact hyE, .inl rfl⟩, .slots (by simp +contextual only [go_sem, ↓reduceIte, Nat.reduceEqDiff, Nat.reduceAdd, Nat.reduceLeDiff, Nat.reduceLT, reduceCtorEq])⟩
              · simp +contextual only [go_sem, ↓reduceIte, Nat.reduceEqDiff, Nat.reduceAdd, Nat.reduceLeDiff, Nat.reduceLT, reduceCtorEq, k8, lt_dec hlt, hx, ← hm, hw, w3, szk, zl, ne_eq, not_false_eq_true, hy1, he, ks, List.getElem?_map, Option.map_some, Int.natCast_nonneg, Int.toNat_natCast, List.length_map, Nat.zero_add, hy2, hy3, h28, hcol, p2, d6, isF_ev19, isF_rds, tk_rds, tk_ev19, decL_enc Cod.dec_enc]
                exact ⟨(l', Cod.enc l'), ⟨p3, fun z hz => ((p4 z).1 hz).elim (c2 z) fun h => by rw [h]; exact hyE, .inl rfl⟩, .slots (by simp +contextual only [go_sem, ↓reduceIte, Nat.reduceEqDiff, Nat.reduceAdd, Nat.reduceLeDiff, Nat.reduceLT, reduceCtorEq])⟩
      | cons x xs =>
        have hxE : x ∈ E := by rw [g1]; simp
        have hxe := hen x hxE
        have hxr := hrd x hxE
        have e1 : evB (encE x) := ⟨_, hxe, rfl⟩
        have e2 := decE_enc hxe
        have hlen : pre.length + (xs.length + 1) = E.length := by rw [g1]; simp
        have y1 : (1 = n) = False := by simp; omega
        have y2 : ∀ k, (1 = n + k) = False := fun k => by simp; omega
        have y3 : (n = 1) = False := by simp; omega
        have hok : okE 10 (evV x (.slice 2 (x.rds.map Cod.enc))) = true := rfl
        have a1 : xs.length ≤ 1000 := by omega
        have a2 : rdsLe xs := fun e he => hrd e (by rw [g1]; simp [he])
        have b1 : (pre.length + 1) * 120 ≤ 68719476736 := by omega
        have b2 : pre.length + 1 ≤ 4294967296 := by omega
        cases lo with
        | none =>
          have h0 : pre = [] := g4
          have d3 : decide ((0 : Int) > (E.length : Int)) = false := by simp
          simp +contextual only [go_sem, ↓reduceIte, Nat.reduceEqDiff, Nat.reduceAdd, Nat.reduceLeDiff, Nat.reduceLT, reduceCtorEq, k8, g3, h24, hxr, lvV, lenNil Tryd.underlying35, hun, hu, y1, y2, y3, d3, h25, hxe, h26, e1, e2, d0, hok, h27, a1, a2, b1, b2, isF_ev19, isF_rds, tk_rds, List.map_cons, List.length_map, Nat.zero_add, Nat.one_mul, Nat.mul_one, Nat.add_eq_left, Nat.left_eq_add, Nat.add_assoc, and_self, decL_enc Cod.dec_enc]
          subst h0
          refine agH fun H' hH' => ?_
          refine ⟨⟨[] ++ [x], xs, some (n + 4), n + 6, H'⟩, by dsimp only; rw [List.length_cons]; omega, ⟨by rw [g1]; simp, ?_, ?_, ⟨by omega, by dsimp only; omega, ?_⟩, by dsimp only; omega, fun k => ?_⟩, .slots ?_⟩
          · dsimp only
            rw [hH']
            (repeat (refine (updH_ne (by omega)).trans ?_))
            exact g2
          · dsimp only
            rw [hH']
            exact updH_at
          · dsimp only
            rw [hH']
            exact (updH_ne (by omega)).trans updH_at
          · dsimp only
            rw [hH']
            (repeat (refine (updH_ne (by omega)).trans ?_))
            exact (congrArg H (Nat.add_assoc _ _ _)).trans (hun _)
          · simp +contextual only [go_sem, ↓reduceIte, Nat.reduceEqDiff, Nat.reduceAdd, Nat.reduceLeDiff, Nat.reduceLT, reduceCtorEq, lvV, List.length_append, List.length_singleton]
        | some sid =>
          obtain ⟨s1, s2, s3⟩ := g4
          have d3 : decide ((pre.length : Int) > (E.length : Int)) = false := by simp; omega
          have y4 : (sid = n) = False := by simp; omega
          have y5 : ∀ k, (sid = n + k) = False := fun k => by simp; omega
          have y6 : (1 = sid) = False := by simp; omega
          have y7 : (n = sid) = False := by simp; omega
          have y8 : ∀ k, (n + k = sid) = False := fun k => by simp; omega
          simp +contextual only [go_sem, ↓reduceIte, Nat.reduceEqDiff, Nat.reduceAdd, Nat.reduceLeDiff, Nat.reduceLT, reduceCtorEq, k8, g3, h24, hxr, lvV, hun, hu, y1, y2, y3, d3, h25, hxe, h26, e1, e2, d0, hok, h27, a1, a2, b1, b2, s3, y4, y5, y6, y7, y8, isF_ev19, isF_rds, tk_rds, List.map_cons, List.length_map, Nat.zero_add, Nat.one_mul, Nat.mul_one, Nat.add_eq_left, Nat.left_eq_add, Nat.add_assoc, and_self, decL_enc Cod.dec_enc]
          have hcat : (pre.map Cod.enc ++ [evV x (.slice 2 (x.rds.map Cod.enc))] : List V) = (pre ++ [x]).map Cod.enc := by rw [List.map_append]; rfl
          rw [hcat]
          refine agH fun H' hH' => ?_
          refine ⟨⟨pre ++ [x], xs, some (n + 4), n + 6, H'⟩, by dsimp only; rw [List.length_cons]; omega, ⟨by rw [g1]; simp, ?_, ?_, ⟨by omega, by dsimp only; omega, ?_⟩, by dsimp only; omega, fun k => ?_⟩, .slots ?_⟩
          · dsimp only
            rw [hH']
            (repeat (refine (updH_ne (by omega)).trans ?_))
            exact g2
          · dsimp only
            rw [hH']
            exact updH_at
          · dsimp only
            rw [hH']
            exact (updH_ne (by omega)).trans updH_at
          · dsimp only
            rw [hH']
            (repeat (refine (updH_ne (by omega)).trans ?_))
            exact (congrArg H (Nat.add_assoc _ _ _)).trans (hun _)
          · simp +contextual only [go_sem, ↓reduceIte, Nat.reduceEqDiff, Nat.reduceAdd, Nat.reduceLeDiff, Nat.reduceLT, reduceCtorEq, lvV, List.length_append, List.length_singleton]
  · rintro i ⟨pre, n, H⟩ x xs hd hlt hx ⟨g1, g2, g3, g4, g5⟩
    dsimp only at g1 g2 g3 g4 g5 ⊢
    have hw := wrap_nat hlt (by omega)
    have hu : H n = .unborn := g5 0
    have hun := g5
    have hxE : x ∈ E := by rw [g1]; simp
    have hpl : pre.length + (xs.length + 1) = E.length := by rw [g1]; simp
    have r1 := hev x hxE
    have r2 : (pre.length : Int) < 64 := by omega
    have r3 : pre.length ≤ 1000 := by omega
    have r4 : rdsLe pre := fun e he => hrd e (by rw [g1]; simp [he])
    have r5 := hrd x hxE
    have y1 : (1 = n) = False := by simp; omega
    have y2 : ∀ k, (1 = n + k) = False := fun k => by simp; omega
    simp +contextual only [go_sem, ↓reduceIte, Nat.reduceEqDiff, Nat.reduceAdd, Nat.reduceLeDiff, Nat.reduceLT, reduceCtorEq, k8, lt_dec hlt, hx, hw, List.getElem?_map, Option.map_some, Int.natCast_nonneg, Int.toNat_natCast, List.length_map, hu, hun, g3, y1, y2, h21, r1, r2, r3, r4, r5, d0, isF_ev19, decL_enc Cod.dec_enc]
    refine againH fun H' hH' => ?_
    refine ⟨⟨pre ++ [x], n + 1 + 1 + 1, H'⟩, ⟨by rw [g1]; simp, ?_, ?_, by dsimp only; omega, fun k => ?_⟩, .slots ?_⟩
    · dsimp only
      rw [hH']
      (repeat (refine (updH_ne (by omega)).trans ?_))
      exact g2
    · dsimp only
      rw [hH']
      exact updH_at
    · dsimp only
      rw [hH']
      (repeat (refine (updH_ne (by omega)).trans ?_))
      exact (congrArg H (by omega)).trans (hun (3 + k))
    · simp +contextual only [go_sem, ↓reduceIte, Nat.reduceEqDiff, Nat.reduceAdd, Nat.reduceLeDiff, Nat.reduceLT, reduceCtorEq]
end Go.Proofs.YteocedfakgdckaaDoor
