/- Events as fields: plain. -/
import Derived.Test.YteocedfakgdckaaDoorFld19d
namespace Go.Proofs.YteocedfakgdckaaDoor
set_option linter.all false
open Go.Idl
def txF (t : Int) (s : ByteArray) : List FldD := bif decide (s = ⟨#[]⟩) then [] else [⟨t, s.data.toList⟩]
def nuF (t n : Int) : List FldD := bif n == 0 then [] else [⟨t, encI n⟩]
def numsE : List Rdg → List (List UInt8)
  | [] => []
  | r :: l => encI r.time :: encI r.reg :: numsE l
def offF (b : Bool) : List FldD := bif b then nuF 8 1 else []
def fldsE (e : EvD) : List FldD := txF 1 e.station ++ txF 2 e.txn ++ nuF 3 e.conn ++ nuF 4 e.seq ++ nuF 5 e.kind ++ nuF 6 e.time ++ txF 7 e.token ++ offF e.offline ++ nuF 9 e.reason
def encE (e : EvD) : List UInt8 := encFl (fldsE e ++ [⟨10, encL (numsE e.rds)⟩])
def OkRs (l : List Rdg) : Prop := l ≠ [] ∧ l.length ≤ 16 ∧ ∀ r, r ∈ l → okN r.time ∧ okN r.reg
structure EncOk (e : EvD) : Prop where
  ev : evS e = 0
  st : e.station ≠ ⟨#[]⟩ ∧ e.station.size ≤ 36
  tx : e.txn ≠ ⟨#[]⟩ ∧ e.txn.size ≤ 36
  tk : e.token.size ≤ 36
  co : okN e.conn
  sq : okN e.seq
  ki : okN e.kind
  ti : okN e.time
  re : okN e.reason
  rs : OkRs e.rds
theorem numsE_len : ∀ (l : List Rdg), (numsE l).length = 2 * l.length
  | [] => rfl
  | r :: l => by rw [numsE, List.length_cons, List.length_cons, numsE_len l, List.length_cons]; omega
theorem nums_ne : ∀ (l : List Rdg) (x : List UInt8), x ∈ numsE l → x ≠ []
  | [], x, h => by cases h
  | r :: l, x, h => by
    rw [numsE] at h
    rcases List.mem_cons.1 h with rfl | h
    · exact fun h => by have := encI_ne r.time []; rw [List.append_nil] at this; exact this h
    · rcases List.mem_cons.1 h with rfl | h
      · exact fun h => by have := encI_ne r.reg []; rw [List.append_nil] at this; exact this h
      · exact nums_ne l x h
theorem nums_app (r : Rdg) : ∀ (l : List Rdg), numsE (l ++ [r]) = numsE l ++ [encI r.time, encI r.reg]
  | [] => rfl
  | x :: l => by rw [List.cons_append, numsE, nums_app r l, numsE]; rfl
theorem encLs_nums : ∀ (l : List Rdg), (∀ r, r ∈ l → okN r.time ∧ okN r.reg) → (encLs (numsE l)).length ≤ 32 * l.length
  | [], _ => by simp [numsE, encLs]
  | r :: l, h => by
    have h1 := encLs_nums l fun x hx => h x (List.mem_cons_of_mem _ hx)
    obtain ⟨h2, h3⟩ := h r (by simp)
    have h4 := encI_len h2
    have h5 := encI_len h3
    rw [numsE, encLs, encLs, encB, encB]
    have h6 := encI_len (n := ((encI r.time).length : Int)) ⟨by omega, by omega⟩
    have h7 := encI_len (n := ((encI r.reg).length : Int)) ⟨by omega, by omega⟩
    simp only [List.length_append, List.length_cons]
    omega
theorem nums_ok {l : List Rdg} (h : OkRs l) : OkLs (numsE l) ∧ (encL (numsE l)).length ≤ 600 := by
  obtain ⟨h1, h2, h3⟩ := h
  have h4 := encLs_nums l h3
  have h5 := encI_len (n := ((numsE l).length : Int)) ⟨by omega, by rw [numsE_len]; omega⟩
  refine ⟨⟨by rw [numsE_len]; omega, nums_ne l, ?_⟩, ?_⟩ <;> (rw [encL, List.length_append]; omega)
theorem nums_inj : ∀ {l m : List Rdg}, (∀ r, r ∈ l → okN r.time ∧ okN r.reg) → (∀ r, r ∈ m → okN r.time ∧ okN r.reg) → numsE l = numsE m → l = m
  | [], [], _, _, _ => rfl
  | [], r :: m, _, _, h => by cases h
  | r :: l, [], _, _, h => by cases h
  | r :: l, q :: m, hl, hm, h => by
    rw [numsE, numsE, List.cons.injEq, List.cons.injEq] at h
    obtain ⟨h1, h2, h3⟩ := h
    obtain ⟨a1, a2⟩ := hl r (by simp)
    obtain ⟨b1, b2⟩ := hm q (by simp)
    have e1 := encI_inj a1.1 b1.1 h1
    have e2 := encI_inj a2.1 b2.1 h2
    have e3 := nums_inj (fun x hx => hl x (List.mem_cons_of_mem _ hx)) (fun x hx => hm x (List.mem_cons_of_mem _ hx)) h3
    obtain ⟨rt, rr⟩ := r
    obtain ⟨qt, qr⟩ := q
    simp only at e1 e2
    subst e1 e2 e3
    rfl
theorem txF_cases (t : Int) (s : ByteArray) : (s = ⟨#[]⟩ ∧ txF t s = []) ∨ (s ≠ ⟨#[]⟩ ∧ txF t s = [⟨t, s.data.toList⟩]) := by
  by_cases h : s = ⟨#[]⟩
  · exact .inl ⟨h, by unfold txF; rw [decide_eq_true h]; rfl⟩
  · exact .inr ⟨h, by unfold txF; rw [decide_eq_false h]; rfl⟩
theorem nuF_cases (t n : Int) : (n = 0 ∧ nuF t n = []) ∨ (n ≠ 0 ∧ nuF t n = [⟨t, encI n⟩]) := by
  by_cases h : n = 0
  · exact .inl ⟨h, by unfold nuF; rw [h]; rfl⟩
  · exact .inr ⟨h, by unfold nuF; rw [beq_false_of_ne h]; rfl⟩
theorem tags_app : ∀ {b c : Int} {l m : List FldD}, okTags b l → (∀ f, f ∈ l → f.tag ≤ c) → b ≤ c → okTags c m → okTags b (l ++ m)
  | b, c, [], m, _, _, hb, h => by
    cases m with
    | nil => trivial
    | cons f m => obtain ⟨h1, h2, h3⟩ := h; exact ⟨by omega, h2, h3⟩
  | b, c, f :: l, m, h, hl, hb, hm => by
    obtain ⟨h1, h2, h3⟩ := h
    exact ⟨h1, h2, tags_app h3 (fun g hg => hl g (List.mem_cons_of_mem _ hg)) (hl f (by simp)) hm⟩
theorem encFl_len (l : List FldD) (h : ∀ f, f ∈ l → okN f.tag ∧ f.data.length ≤ 600) : (encFl l).length ≤ 700 * l.length := by
  induction l with
  | nil => simp [encFl]
  | cons f l ih =>
    have h1 := ih fun g hg => h g (List.mem_cons_of_mem _ hg)
    obtain ⟨h2, h3⟩ := h f (by simp)
    have h4 := encI_len h2
    have h5 := encI_len (n := (f.data.length : Int)) ⟨by omega, by omega⟩
    rw [encFl, encB]
    simp only [List.length_append, List.length_cons]
    omega
structure FP (c : Int) (l : List FldD) : Prop where
  tg : okTags 0 l
  el : ∀ f, f ∈ l → 1 ≤ f.tag ∧ f.tag ≤ c ∧ f.data ≠ [] ∧ f.data.length ≤ 600
  ln : (l.length : Int) ≤ c
theorem FP.add {c b : Int} {l s : List FldD} (h : FP c l) (hb : c < b) (hb' : b ≤ 1000) (h0 : 0 ≤ c) (hs : s = [] ∨ ∃ d, s = [⟨b, d⟩] ∧ d ≠ [] ∧ d.length ≤ 600) : FP b (l ++ s) := by
  obtain ⟨h1, h2, h3⟩ := h
  rcases hs with rfl | ⟨d, rfl, hd, hl⟩
  · rw [List.append_nil]
    exact ⟨h1, fun f hf => by have := h2 f hf; exact ⟨this.1, by omega, this.2.2⟩, by omega⟩
  · refine ⟨tags_app h1 (fun f hf => (h2 f hf).2.1) h0 ⟨hb, hb', trivial⟩, fun f hf => ?_, by simp; omega⟩
    rcases List.mem_append.1 hf with hf | hf
    · have := h2 f hf; exact ⟨this.1, by omega, this.2.2⟩
    · obtain rfl := List.mem_singleton.1 hf
      exact ⟨by dsimp only; omega, Int.le_refl _, hd, hl⟩
theorem FP.nil : FP 0 [] := ⟨trivial, by simp, by simp⟩
theorem ba_size (s : ByteArray) : s.data.toList.length = s.size := by simp
theorem ba_ne {s : ByteArray} (h : s ≠ ⟨#[]⟩) : s.data.toList ≠ [] := by
  intro h0
  apply h
  obtain ⟨d⟩ := s
  congr 1
  exact Array.toList_eq_nil_iff.1 h0
theorem seg_tx (t : Int) {s : ByteArray} (h : s.size ≤ 36) : txF t s = [] ∨ ∃ d, txF t s = [⟨t, d⟩] ∧ d ≠ [] ∧ d.length ≤ 600 := by
  rcases txF_cases t s with ⟨_, h1⟩ | ⟨h0, h1⟩
  · exact .inl h1
  · exact .inr ⟨_, h1, ba_ne h0, by rw [ba_size]; omega⟩
theorem encI_nn (n : Int) : encI n ≠ [] := fun h => by have := encI_ne n []; rw [List.append_nil] at this; exact this h
theorem seg_nu (t : Int) {n : Int} (h : okN n) : nuF t n = [] ∨ ∃ d, nuF t n = [⟨t, d⟩] ∧ d ≠ [] ∧ d.length ≤ 600 := by
  rcases nuF_cases t n with ⟨_, h1⟩ | ⟨h0, h1⟩
  · exact .inl h1
  · exact .inr ⟨_, h1, encI_nn n, by have := encI_len h; omega⟩
theorem seg_off (b : Bool) : offF b = [] ∨ ∃ d, offF b = [⟨8, d⟩] ∧ d ≠ [] ∧ d.length ≤ 600 := by
  cases b with
  | false => exact .inl rfl
  | true => exact seg_nu 8 (n := 1) ⟨by decide, by decide⟩
theorem flds_fp {e : EvD} (h : EncOk e) : FP 10 (fldsE e ++ [⟨10, encL (numsE e.rds)⟩]) := by
  have h1 := FP.nil.add (b := 1) (by decide) (by decide) (by decide) (seg_tx 1 h.st.2)
  have h2 := h1.add (b := 2) (by decide) (by decide) (by decide) (seg_tx 2 h.tx.2)
  have h3 := h2.add (b := 3) (by decide) (by decide) (by decide) (seg_nu 3 h.co)
  have h4 := h3.add (b := 4) (by decide) (by decide) (by decide) (seg_nu 4 h.sq)
  have h5 := h4.add (b := 5) (by decide) (by decide) (by decide) (seg_nu 5 h.ki)
  have h6 := h5.add (b := 6) (by decide) (by decide) (by decide) (seg_nu 6 h.ti)
  have h7 := h6.add (b := 7) (by decide) (by decide) (by decide) (seg_tx 7 h.tk)
  have h8 := h7.add (b := 8) (by decide) (by decide) (by decide) (seg_off e.offline)
  have h9 := h8.add (b := 9) (by decide) (by decide) (by decide) (seg_nu 9 h.re)
  have ho := (nums_ok h.rs).2
  have h10 := h9.add (b := 10) (s := [⟨10, encL (numsE e.rds)⟩]) (by decide) (by decide) (by decide) (.inr ⟨_, rfl, by
    intro h0
    have := congrArg List.length h0
    rw [encL, List.length_append] at this
    have h2 : 0 < (encI ((numsE e.rds).length : Int)).length := enc7_pos _
    simp only [List.length_nil] at this
    omega, ho⟩)
  exact h10
theorem flds_ok {e : EvD} (h : EncOk e) : OkF (fldsE e ++ [⟨10, encL (numsE e.rds)⟩]) := by
  have hf := flds_fp h
  refine ⟨hf.tg, by have := hf.ln; omega, fun f hm => (hf.el f hm).2.2.1, ?_⟩
  have := encFl_len _ fun f hm => by have := hf.el f hm; exact ⟨⟨by omega, by omega⟩, this.2.2.2⟩
  have h2 := hf.ln
  omega
def rdsB (b : List UInt8) : Prop := ∃ l, OkRs l ∧ encL (numsE l) = b
open Classical in
noncomputable def decR (b : List UInt8) : List Rdg := if h : rdsB b then Classical.choose h else []
theorem decR_enc {l : List Rdg} (h : OkRs l) : decR (encL (numsE l)) = l := by
  have hb : rdsB (encL (numsE l)) := ⟨l, h, rfl⟩
  unfold decR
  rw [dif_pos hb]
  obtain ⟨h1, h2⟩ := Classical.choose_spec hb
  exact nums_inj h1.2.2 h.2.2 (encL_inj h2)
noncomputable def setF (e : EvD) (x : FldD) : EvD :=
  if x.tag = 1 then { e with station := strB x.data } else if x.tag = 2 then { e with txn := strB x.data } else if x.tag = 7 then { e with token := strB x.data } else if x.tag = 10 then { e with rds := decR x.data }
  else if x.tag = 3 then { e with conn := decI x.data } else if x.tag = 4 then { e with seq := decI x.data } else if x.tag = 5 then { e with kind := decI x.data } else if x.tag = 6 then { e with time := decI x.data }
  else if x.tag = 8 then { e with offline := true } else if x.tag = 9 then { e with reason := decI x.data } else e
def z0E : EvD := ⟨⟨#[]⟩, ⟨#[]⟩, 0, 0, 0, 0, ⟨#[]⟩, false, 0, []⟩
theorem strB_data (s : ByteArray) : strB s.data.toList = s := by
  obtain ⟨d⟩ := s
  simp [strB]
section
variable (a b : ByteArray) (c d e f : Int) (g : ByteArray) (o : Bool) (i : Int) (r : List Rdg)
theorem fold1 (s : ByteArray) : (txF 1 s).foldl setF ⟨⟨#[]⟩, b, c, d, e, f, g, o, i, r⟩ = ⟨s, b, c, d, e, f, g, o, i, r⟩ := by
  rcases txF_cases 1 s with ⟨h0, h1⟩ | ⟨h0, h1⟩
  · rw [h1, h0]; rfl
  · rw [h1]; simp [setF, strB_data]
theorem fold2 (s : ByteArray) : (txF 2 s).foldl setF ⟨a, ⟨#[]⟩, c, d, e, f, g, o, i, r⟩ = ⟨a, s, c, d, e, f, g, o, i, r⟩ := by
  rcases txF_cases 2 s with ⟨h0, h1⟩ | ⟨h0, h1⟩
  · rw [h1, h0]; rfl
  · rw [h1]; simp [setF, strB_data]
theorem fold7 (s : ByteArray) : (txF 7 s).foldl setF ⟨a, b, c, d, e, f, ⟨#[]⟩, o, i, r⟩ = ⟨a, b, c, d, e, f, s, o, i, r⟩ := by
  rcases txF_cases 7 s with ⟨h0, h1⟩ | ⟨h0, h1⟩
  · rw [h1, h0]; rfl
  · rw [h1]; simp [setF, strB_data]
theorem fold3 {n : Int} (h : okN n) : (nuF 3 n).foldl setF ⟨a, b, 0, d, e, f, g, o, i, r⟩ = ⟨a, b, n, d, e, f, g, o, i, r⟩ := by
  rcases nuF_cases 3 n with ⟨h0, h1⟩ | ⟨h0, h1⟩
  · rw [h1, h0]; rfl
  · rw [h1]; simp [setF, decI_enc h]
theorem fold4 {n : Int} (h : okN n) : (nuF 4 n).foldl setF ⟨a, b, c, 0, e, f, g, o, i, r⟩ = ⟨a, b, c, n, e, f, g, o, i, r⟩ := by
  rcases nuF_cases 4 n with ⟨h0, h1⟩ | ⟨h0, h1⟩
  · rw [h1, h0]; rfl
  · rw [h1]; simp [setF, decI_enc h]
theorem fold5 {n : Int} (h : okN n) : (nuF 5 n).foldl setF ⟨a, b, c, d, 0, f, g, o, i, r⟩ = ⟨a, b, c, d, n, f, g, o, i, r⟩ := by
  rcases nuF_cases 5 n with ⟨h0, h1⟩ | ⟨h0, h1⟩
  · rw [h1, h0]; rfl
  · rw [h1]; simp [setF, decI_enc h]
theorem fold6 {n : Int} (h : okN n) : (nuF 6 n).foldl setF ⟨a, b, c, d, e, 0, g, o, i, r⟩ = ⟨a, b, c, d, e, n, g, o, i, r⟩ := by
  rcases nuF_cases 6 n with ⟨h0, h1⟩ | ⟨h0, h1⟩
  · rw [h1, h0]; rfl
  · rw [h1]; simp [setF, decI_enc h]
theorem fold9 {n : Int} (h : okN n) : (nuF 9 n).foldl setF ⟨a, b, c, d, e, f, g, o, 0, r⟩ = ⟨a, b, c, d, e, f, g, o, n, r⟩ := by
  rcases nuF_cases 9 n with ⟨h0, h1⟩ | ⟨h0, h1⟩
  · rw [h1, h0]; rfl
  · rw [h1]; simp [setF, decI_enc h]
theorem fold8 (p : Bool) : (offF p).foldl setF ⟨a, b, c, d, e, f, g, false, i, r⟩ = ⟨a, b, c, d, e, f, g, p, i, r⟩ := by
  cases p with
  | false => rfl
  | true => simp [offF, nuF, setF]
theorem fold10 {l : List Rdg} (h : OkRs l) : ([⟨10, encL (numsE l)⟩] : List FldD).foldl setF (⟨a, b, c, d, e, f, g, o, i, []⟩ : EvD) = ⟨a, b, c, d, e, f, g, o, i, l⟩ := by
  simp [setF, decR_enc h]
end
abbrev fldsA (e : EvD) : List FldD := fldsE e ++ [⟨10, encL (numsE e.rds)⟩]
theorem fold_e {e : EvD} (h : EncOk e) : (fldsA e).foldl setF z0E = e := by
  obtain ⟨st, tx, co, sq, ki, ti, tk, off, re, rs⟩ := e
  obtain ⟨_, _, _, _, h1, h2, h3, h4, h5, h6⟩ := h
  dsimp only at h1 h2 h3 h4 h5 h6
  simp only [fldsA, fldsE, List.foldl_append, z0E]
  rw [fold1, fold2, fold3 _ _ _ _ _ _ _ _ _ h1, fold4 _ _ _ _ _ _ _ _ _ h2, fold5 _ _ _ _ _ _ _ _ _ h3, fold6 _ _ _ _ _ _ _ _ _ h4, fold7, fold8, fold9 _ _ _ _ _ _ _ _ _ h5, fold10 _ _ _ _ _ _ _ _ _ h6]
theorem encE_inj {a b : EvD} (ha : EncOk a) (hb : EncOk b) (h : encE a = encE b) : a = b := by
  have h1 := encFl_inj (tags_nn (Int.le_refl 0) (flds_ok ha).1) (tags_nn (Int.le_refl 0) (flds_ok hb).1) h
  rw [← fold_e ha, ← fold_e hb, show fldsA a = fldsA b from h1]
end Go.Proofs.YteocedfakgdckaaDoor
namespace Go.Proofs.YteocedfakgdckaaDoor
set_option linter.all false
open Go.Idl
set_option maxHeartbeats 8000000
set_option maxRecDepth 100000
attribute [local go_sem] Tryd.underlying3 Tryd.underlying5 Tryd.underlying141 Tryd.underlying9 Tryd.underlying4 agInt agErr agFs Tryd.underlying22
structure LAt (H : Heap) (n c : Nat) (lo : Option Nat) (acc : List FldD) : Prop where
  lt : c < n
  cell : H c = .live 1 [lvV lo acc.length] true
  lv : match lo with | none => acc = [] | some id => c < id ∧ id < n ∧ H id = .live 2 (acc.map Cod.enc) true
  un : ∀ k, H (n + k) = .unborn
theorem la_next {H : Heap} {n c : Nat} {lo : Option Nat} {acc : List FldD} (f : FldD) (ob : Idl.Obj) (hL : LAt H n c lo acc) (a : Nat) (ha : n ≤ a) :
    ∀ H2, H2 = updH (updH (match lo with | none => updH H a ob | some id => updH (updH H a ob) id .dead) (a + 1) (.live 2 ((acc ++ [f]).map Cod.enc) true)) c (.live 1 [.own (a + 1) 0 (acc.length + 1)] true) →
    ∀ n2, a + 2 ≤ n2 → LAt H2 n2 c (some (a + 1)) (acc ++ [f]) ∧ (∀ id, id < c → H2 id = H id) := by
  intro H2 hH2 n2 hn2
  obtain ⟨h1, h2, h3, h4⟩ := hL
  have un : ∀ k, H (n2 + k) = .unborn := fun k => by
    have := h4 (n2 - n + k)
    rwa [show n + (n2 - n + k) = n2 + k by omega] at this
  cases lo with
  | none =>
    dsimp only at hH2
    subst hH2
    refine ⟨⟨by omega, updH_at.trans (by simp), ⟨by omega, by omega, (updH_ne (by omega)).trans updH_at⟩, fun k => ?_⟩, fun id hid => ?_⟩
    · rw [updH_ne (by omega), updH_ne (by omega), updH_ne (by omega)]; exact un k
    · rw [updH_ne (by omega), updH_ne (by omega), updH_ne (by omega)]
  | some i =>
    obtain ⟨q1, q2, q3⟩ := h3
    dsimp only at hH2
    subst hH2
    refine ⟨⟨by omega, updH_at.trans (by simp), ⟨by omega, by omega, (updH_ne (by omega)).trans updH_at⟩, fun k => ?_⟩, fun id hid => ?_⟩
    · rw [updH_ne (by omega), updH_ne (by omega), updH_ne (by omega), updH_ne (by omega)]; exact un k
    · rw [updH_ne (by omega), updH_ne (by omega), updH_ne (by omega), updH_ne (by omega)]
theorem ct54 {Φ : Specs} (hg : Idl.Good Tryd.prog Φ) {C : Ctx} {H0 : Heap} {n c : Nat} {lo : Option Nat} {acc : List FldD} {t : Int} {s : ByteArray} {τ : Nat → V} {K : V → SF → Prop}
    (hL : LAt H0 n c lo acc) (hal : acc.length ≤ 100)
    (hk : ∀ τ' H' n' lo', LAt H' n' c lo' (acc ++ txF t s) → n ≤ n' → (∀ id, id < c → H' id = H0 id) → K (.tup []) ⟨τ', H', n'⟩) :
    CallT Tryd.prog C 54 [.sc (.int .i64 t), .sc (.string s), .ref c 0 0] ⟨τ, H0, n⟩ K := by
  refine CallT.of_walk hg k54 ic54 (by simp) fun C' hlow => ?_
  by_cases hs : s = ⟨#[]⟩
  · have d1 : decide (s = ⟨#[]⟩) = true := decide_eq_true hs
    simp +contextual only [go_sem, ↓reduceIte, Nat.reduceEqDiff, Nat.reduceAdd, Nat.reduceLeDiff, Nat.reduceLT, reduceCtorEq, c54, k54, d1]
    have hT : txF t s = [] := by unfold txF; rw [d1]; rfl
    exact hk _ _ _ lo (by rw [hT, List.append_nil]; exact hL) (Nat.le_refl _) fun _ _ => rfl
  · have d1 : decide (s = ⟨#[]⟩) = false := decide_eq_false hs
    have hLL := hL
    obtain ⟨h1, h2, h3, h4⟩ := hLL
    have hu : H0 n = .unborn := h4 0
    have hT : txF t s = [⟨t, s.data.toList⟩] := by unfold txF; rw [d1]; rfl
    have hok : okE 2 (.agg [.sc (.int .i64 t), .slice 1 (s.data.toList.map Cod.enc)]) = true := rfl
    have b1 : (acc.length + 1) * 32 ≤ 68719476736 := by omega
    have b2 : acc.length + 1 ≤ 4294967296 := by omega
    have y5 : ∀ k, (n + k = c) = False := fun k => by simp; omega
    have y6 : (n = c) = False := by simp; omega
    obtain ⟨p1, p2⟩ := la_next ⟨t, s.data.toList⟩ (.live 2 [.agg [.sc (.int .i64 t), .slice 1 (s.data.toList.map Cod.enc)]] true) hL n (Nat.le_refl _) _ rfl (n + 3) (by omega)
    have y3 : (c = n) = False := by simp; omega
    have y4 : ∀ k, (c = n + k) = False := fun k => by simp; omega
    cases lo with
    | none =>
      simp +contextual only [go_sem, ↓reduceIte, Nat.reduceEqDiff, Nat.reduceAdd, Nat.reduceLeDiff, Nat.reduceLT, reduceCtorEq, c54, k54, d1, h2, lvV]
      refine stepI_bytesSF Tryd.underlying9 Tryd.underlying22 Tryd.underlying5 rfl ?_ rfl
      simp +contextual only [go_sem, ↓reduceIte, Nat.reduceEqDiff, Nat.reduceAdd, Nat.reduceLeDiff, Nat.reduceLT, reduceCtorEq, k54, hu, h4, y3, y4, y5, y6, h2, hok, lvV, Nat.one_mul, Nat.mul_one, Nat.add_eq_left, Nat.left_eq_add, Nat.add_assoc]
      have h3 : acc = [] := h3
      subst h3
      exact hk _ _ _ (some (n + 1)) (by rw [hT]; exact p1) (by omega) p2
    | some id =>
      obtain ⟨q1, q2, q3⟩ := h3
      simp +contextual only [go_sem, ↓reduceIte, Nat.reduceEqDiff, Nat.reduceAdd, Nat.reduceLeDiff, Nat.reduceLT, reduceCtorEq, c54, k54, d1, h2, lvV]
      refine stepI_bytesSF Tryd.underlying9 Tryd.underlying22 Tryd.underlying5 rfl ?_ rfl
      have z1 : (id = n) = False := by simp; omega
      have z2 : ∀ k, (id = n + k) = False := fun k => by simp; omega
      have z3 : (c = id) = False := by simp; omega
      have z4 : (id = c) = False := by simp; omega
      simp +contextual only [go_sem, ↓reduceIte, Nat.reduceEqDiff, Nat.reduceAdd, Nat.reduceLeDiff, Nat.reduceLT, reduceCtorEq, k54, hu, h4, y3, y4, y5, y6, h2, hok, lvV, q3, z1, z2, z3, z4, b1, b2, List.length_map, Nat.zero_add, Nat.one_mul, Nat.mul_one, Nat.add_eq_left, Nat.left_eq_add, Nat.add_assoc, and_self]
      have hcat : (acc.map Cod.enc ++ [.agg [.sc (.int .i64 t), .slice 1 (s.data.toList.map Cod.enc)]] : List V) = (acc ++ [(⟨t, s.data.toList⟩ : FldD)]).map Cod.enc := by rw [List.map_append]; rfl
      rw [hcat]
      exact hk _ _ _ (some (n + 1)) (by rw [hT]; exact p1) (by omega) p2
theorem ct55 {Φ : Specs} (hg : Idl.Good Tryd.prog Φ) {C : Ctx} {H0 : Heap} {n c : Nat} {lo : Option Nat} {acc : List FldD} {t m : Int} {τ : Nat → V} {K : V → SF → Prop}
    (hL : LAt H0 n c lo acc) (hal : acc.length ≤ 100) (h49 : Φ 49 = some SPutI) (hm : okN m)
    (hk : ∀ τ' H' n' lo', LAt H' n' c lo' (acc ++ nuF t m) → n ≤ n' → (∀ id, id < c → H' id = H0 id) → K (.tup []) ⟨τ', H', n'⟩) :
    CallT Tryd.prog C 55 [.sc (.int .i64 t), .sc (.int .i64 m), .ref c 0 0] ⟨τ, H0, n⟩ K := by
  refine CallT.of_walk hg k55 ic55 (by simp) fun C' hlow => ?_
  by_cases hs : m = 0
  · have d1 : (m != 0) = false := by rw [hs]; rfl
    simp +contextual only [go_sem, ↓reduceIte, Nat.reduceEqDiff, Nat.reduceAdd, Nat.reduceLeDiff, Nat.reduceLT, reduceCtorEq, c55, k55, d1]
    have hT : nuF t m = [] := by rcases nuF_cases t m with ⟨g0, g1⟩ | ⟨g0, g1⟩ <;> first | exact g1 | exact absurd g0 hs | exact absurd hs g0
    exact hk _ _ _ lo (by rw [hT, List.append_nil]; exact hL) (Nat.le_refl _) fun _ _ => rfl
  · have d1 : (m != 0) = true := bne_iff_ne.2 hs
    have hLL := hL
    obtain ⟨h1, h2, h3, h4⟩ := hLL
    have hu : H0 n = .unborn := h4 0
    have hT : nuF t m = [⟨t, encI m⟩] := by rcases nuF_cases t m with ⟨g0, g1⟩ | ⟨g0, g1⟩ <;> first | exact g1 | exact absurd g0 hs | exact absurd hs g0
    have hok : okE 2 (.agg [.sc (.int .i64 t), .slice 1 ((encI m).map Cod.enc)]) = true := rfl
    have b1 : (acc.length + 1) * 32 ≤ 68719476736 := by omega
    have b2 : acc.length + 1 ≤ 4294967296 := by omega
    have y5 : ∀ k, (n + k = c) = False := fun k => by simp; omega
    have y6 : (n = c) = False := by simp; omega
    obtain ⟨p1, p2⟩ := la_next ⟨t, encI m⟩ (.live 2 [.agg [.sc (.int .i64 t), .slice 1 ((encI m).map Cod.enc)]] true) hL (n + 5) (by omega) _ rfl (n + 8) (by omega)
    have y3 : (c = n) = False := by simp; omega
    have y4 : ∀ k, (c = n + k) = False := fun k => by simp; omega
    cases lo with
    | none =>
      simp +contextual only [go_sem, ↓reduceIte, Nat.reduceEqDiff, Nat.reduceAdd, Nat.reduceLeDiff, Nat.reduceLT, reduceCtorEq, c55, k55, d1, h2, lvV]
      refine TriI.ofDrw hg k55 ?_
      simp +contextual only [go_sem, ↓reduceIte, Nat.reduceEqDiff, Nat.reduceAdd, Nat.reduceLeDiff, Nat.reduceLT, reduceCtorEq, k55, h49, hm, hu, h4, y3, y4, y5, y6, h2, hok, lvV, Nat.one_mul, Nat.mul_one, Nat.add_eq_left, Nat.left_eq_add, Nat.add_assoc]
      have h3 : acc = [] := h3
      subst h3
      exact ⟨by simp [apartI, apartAll, clash, List.range, List.range.loop, y3, y4, y5, y6]; decide, hk _ _ _ (some (n + 6)) (by rw [hT]; exact p1) (by omega) p2⟩
    | some id =>
      obtain ⟨q1, q2, q3⟩ := h3
      simp +contextual only [go_sem, ↓reduceIte, Nat.reduceEqDiff, Nat.reduceAdd, Nat.reduceLeDiff, Nat.reduceLT, reduceCtorEq, c55, k55, d1, h2, lvV]
      refine TriI.ofDrw hg k55 ?_
      have z1 : (id = n) = False := by simp; omega
      have z2 : ∀ k, (id = n + k) = False := fun k => by simp; omega
      have z3 : (c = id) = False := by simp; omega
      have z4 : (id = c) = False := by simp; omega
      simp +contextual only [go_sem, ↓reduceIte, Nat.reduceEqDiff, Nat.reduceAdd, Nat.reduceLeDiff, Nat.reduceLT, reduceCtorEq, k55, h49, hm, hu, h4, y3, y4, y5, y6, h2, hok, lvV, q3, z1, z2, z3, z4, b1, b2, List.length_map, Nat.zero_add, Nat.one_mul, Nat.mul_one, Nat.add_eq_left, Nat.left_eq_add, Nat.add_assoc, and_self]
      have hcat : (acc.map Cod.enc ++ [.agg [.sc (.int .i64 t), .slice 1 ((encI m).map Cod.enc)]] : List V) = (acc ++ [(⟨t, encI m⟩ : FldD)]).map Cod.enc := by rw [List.map_append]; rfl
      rw [hcat]
      exact ⟨by simp [apartI, apartAll, clash, List.range, List.range.loop, y3, y4, y5, y6, z1, z2, z3, z4]; decide, hk _ _ _ (some (n + 6)) (by rw [hT]; exact p1) (by omega) p2⟩
end Go.Proofs.YteocedfakgdckaaDoor
namespace Go.Proofs.YteocedfakgdckaaDoor
set_option linter.all false
open Go.Idl
set_option maxHeartbeats 16000000
set_option maxRecDepth 100000
attribute [local go_sem] Tryd.underlying3 Tryd.underlying5 Tryd.underlying141 Tryd.underlying9 Tryd.underlying4 agInt agErr agFs
theorem agEv19 : agOf Tryd.prog 29 = some (some 10) := by kernel_rfl
attribute [local go_sem] agEv19
theorem tx_len (t : Int) (s : ByteArray) : (txF t s).length ≤ 1 := by
  rcases txF_cases t s with ⟨_, h⟩ | ⟨_, h⟩ <;> rw [h] <;> simp
theorem nu_len (t n : Int) : (nuF t n).length ≤ 1 := by
  rcases nuF_cases t n with ⟨_, h⟩ | ⟨_, h⟩ <;> rw [h] <;> simp
abbrev accB (e : EvD) : List FldD := ([] : List FldD) ++ txF 1 e.station ++ txF 2 e.txn ++ nuF 3 e.conn ++ nuF 4 e.seq ++ nuF 5 e.kind ++ nuF 6 e.time ++ txF 7 e.token
abbrev accA (e : EvD) : List FldD := accB e ++ nuF 8 1
structure EnL where
  pre : List Rdg
  id : Nat
  n : Nat
  H : Heap
structure EnInv (fl : List FldD) (rs : List Rdg) (lo : Option Nat) (xs : List Rdg) (p : EnL) : Prop where
  eq : rs = p.pre ++ xs
  la : LAt p.H p.n 1 lo fl
  lt : 1 < p.id ∧ p.id < p.n
  ne : lo ≠ some p.id
  ob : p.H p.id = .live 1 ((numsE p.pre).map Cod.enc) true
theorem LAt.keep {H H' : Heap} {n n' c : Nat} {lo : Option Nat} {acc : List FldD} (h : LAt H n c lo acc) (hn : n ≤ n') (hun : ∀ k, H' (n' + k) = .unborn) (hc : H' c = H c) (hl : ∀ id, lo = some id → H' id = H id) : LAt H' n' c lo acc := by
  obtain ⟨h1, h2, h3, h4⟩ := h
  refine ⟨by omega, hc.trans h2, ?_, hun⟩
  cases lo with
  | none => exact h3
  | some id =>
    obtain ⟨q1, q2, q3⟩ := h3
    exact ⟨q1, by omega, (hl id rfl).trans q3⟩
theorem LAt.id_lt {H : Heap} {n c id : Nat} {lo : Option Nat} {acc : List FldD} (h : LAt H n c lo acc) (hid : lo = some id) : c < id ∧ id < n := by
  obtain ⟨h1, h2, h3, h4⟩ := h
  subst hid
  exact ⟨h3.1, h3.2.1⟩
theorem againH {C : Ctx} {α A : Type} {st : Nat → A → SF} {inv : List α → A → Prop} {i : Nat} {xs : List α} {τ : Nat → V} {H : Heap} {n : Nat} (h : ∀ H', H' = H → againL C st inv i xs ⟨τ, H', n⟩) : againL C st inv i xs ⟨τ, H, n⟩ := h H rfl
open Classical in
noncomputable abbrev SEnc : List V → Option V := FT fun (t : EvD × Unit) => if EncOk t.1 then some (encE t.1, (0 : Int)) else none
theorem con25 {Φ : Specs} (hg : Idl.Good Tryd.prog Φ) (h35 : Φ 35 = some SEv) (h54 : Φ 54 = none) (h55 : Φ 55 = none) (h49 : Φ 49 = some SPutI) (h47 : Φ 47 = some SPutL) (h48 : Φ 48 = some SPutF) : Contract Tryd.prog 25 SEnc := by
  refine conT hg k25 ic25 (by decide) fun C t r h => ?_
  obtain ⟨e, u⟩ := t
  dsimp only at h
  split at h
  case isFalse => cases h
  rename_i hE
  obtain rfl := Option.some.inj h
  have hev := hE.ev
  have d0 : ((0 : Int) != 0) = false := rfl
  obtain ⟨evO, hevO⟩ : ∃ o : Idl.Obj, o = .live 10 [Cod.enc e] true := ⟨_, rfl⟩
  have hevO' := hevO
  rw [EvD.enc_eq] at hevO
  simp only [go_sem] at hevO
  have L0 : LAt (updH (updH (fun _ => .unborn) 0 evO) 1 (.live 1 [.sc (.slice none 0 0)] true)) 2 1 none [] := ⟨by decide, rfl, rfl, fun k => by rw [updH_ne (by omega), updH_ne (by omega)]⟩
  have b0 : updH (updH (fun _ => .unborn) 0 evO) 1 (.live 1 [.sc (.slice none 0 0)] true) 0 = evO := rfl
  rw [hevO] at L0
  simp +contextual only [go_sem, ↓reduceIte, Nat.reduceEqDiff, Nat.reduceAdd, Nat.reduceLeDiff, Nat.reduceLT, reduceCtorEq, c25, k25, h35, hev, d0, h54, h55]
  have x1 := tx_len 1 e.station
  refine ct54 hg (lo := none) (acc := ([] : List FldD)) L0 (by simp only [List.length_append, List.length_nil]; omega) fun τ1 H1 n1 lo1 L1 hn1 hf1 => ?_
  have b1 : H1 0 = evO := (hf1 0 (by decide)).trans (by rw [hevO]; rfl)
  have c1 := b1
  rw [hevO] at c1
  simp +contextual only [go_sem, ↓reduceIte, Nat.reduceEqDiff, Nat.reduceAdd, Nat.reduceLeDiff, Nat.reduceLT, reduceCtorEq, k25, c1, h54, h55]
  have x2 := tx_len 2 e.txn
  refine ct54 hg (lo := lo1) (acc := ([] : List FldD) ++ txF 1 e.station) L1 (by simp only [List.length_append, List.length_nil]; omega) fun τ2 H2 n2 lo2 L2 hn2 hf2 => ?_
  have b2 : H2 0 = evO := (hf2 0 (by decide)).trans b1
  have c2 := b2
  rw [hevO] at c2
  simp +contextual only [go_sem, ↓reduceIte, Nat.reduceEqDiff, Nat.reduceAdd, Nat.reduceLeDiff, Nat.reduceLT, reduceCtorEq, k25, c2, h54, h55]
  have x3 := nu_len 3 e.conn
  refine ct55 hg (lo := lo2) (acc := ([] : List FldD) ++ txF 1 e.station ++ txF 2 e.txn) L2 (by simp only [List.length_append, List.length_nil]; omega) h49 hE.co fun τ3 H3 n3 lo3 L3 hn3 hf3 => ?_
  have b3 : H3 0 = evO := (hf3 0 (by decide)).trans b2
  have c3 := b3
  rw [hevO] at c3
  simp +contextual only [go_sem, ↓reduceIte, Nat.reduceEqDiff, Nat.reduceAdd, Nat.reduceLeDiff, Nat.reduceLT, reduceCtorEq, k25, c3, h54, h55]
  have x4 := nu_len 4 e.seq
  refine ct55 hg (lo := lo3) (acc := ([] : List FldD) ++ txF 1 e.station ++ txF 2 e.txn ++ nuF 3 e.conn) L3 (by simp only [List.length_append, List.length_nil]; omega) h49 hE.sq fun τ4 H4 n4 lo4 L4 hn4 hf4 => ?_
  have b4 : H4 0 = evO := (hf4 0 (by decide)).trans b3
  have c4 := b4
  rw [hevO] at c4
  simp +contextual only [go_sem, ↓reduceIte, Nat.reduceEqDiff, Nat.reduceAdd, Nat.reduceLeDiff, Nat.reduceLT, reduceCtorEq, k25, c4, h54, h55]
  have x5 := nu_len 5 e.kind
  refine ct55 hg (lo := lo4) (acc := ([] : List FldD) ++ txF 1 e.station ++ txF 2 e.txn ++ nuF 3 e.conn ++ nuF 4 e.seq) L4 (by simp only [List.length_append, List.length_nil]; omega) h49 hE.ki fun τ5 H5 n5 lo5 L5 hn5 hf5 => ?_
  have b5 : H5 0 = evO := (hf5 0 (by decide)).trans b4
  have c5 := b5
  rw [hevO] at c5
  simp +contextual only [go_sem, ↓reduceIte, Nat.reduceEqDiff, Nat.reduceAdd, Nat.reduceLeDiff, Nat.reduceLT, reduceCtorEq, k25, c5, h54, h55]
  have x6 := nu_len 6 e.time
  refine ct55 hg (lo := lo5) (acc := ([] : List FldD) ++ txF 1 e.station ++ txF 2 e.txn ++ nuF 3 e.conn ++ nuF 4 e.seq ++ nuF 5 e.kind) L5 (by simp only [List.length_append, List.length_nil]; omega) h49 hE.ti fun τ6 H6 n6 lo6 L6 hn6 hf6 => ?_
  have b6 : H6 0 = evO := (hf6 0 (by decide)).trans b5
  have c6 := b6
  rw [hevO] at c6
  simp +contextual only [go_sem, ↓reduceIte, Nat.reduceEqDiff, Nat.reduceAdd, Nat.reduceLeDiff, Nat.reduceLT, reduceCtorEq, k25, c6, h54, h55]
  have x7 := tx_len 7 e.token
  refine ct54 hg (lo := lo6) (acc := ([] : List FldD) ++ txF 1 e.station ++ txF 2 e.txn ++ nuF 3 e.conn ++ nuF 4 e.seq ++ nuF 5 e.kind ++ nuF 6 e.time) L6 (by simp only [List.length_append, List.length_nil]; omega) fun τ7 H7 n7 lo7 L7 hn7 hf7 => ?_
  have b7 : H7 0 = evO := (hf7 0 (by decide)).trans b6
  have c7 := b7
  rw [hevO] at c7
  cases hoff : e.offline with
  | true =>
    rw [hoff] at c7
    simp +contextual only [go_sem, ↓reduceIte, Nat.reduceEqDiff, Nat.reduceAdd, Nat.reduceLeDiff, Nat.reduceLT, reduceCtorEq, k25, c7, h54, h55]
    have x8 := nu_len 8 1
    refine ct55 hg (lo := lo7) (acc := ([] : List FldD) ++ txF 1 e.station ++ txF 2 e.txn ++ nuF 3 e.conn ++ nuF 4 e.seq ++ nuF 5 e.kind ++ nuF 6 e.time ++ txF 7 e.token) L7 (by simp only [List.length_append, List.length_nil]; omega) h49 ⟨by decide, by decide⟩ fun τ8 H8 n8 lo8 L8 hn8 hf8 => ?_
    have b8 : H8 0 = evO := (hf8 0 (by decide)).trans b7
    have c8 := b8
    rw [hevO] at c8
    simp +contextual only [go_sem, ↓reduceIte, Nat.reduceEqDiff, Nat.reduceAdd, Nat.reduceLeDiff, Nat.reduceLT, reduceCtorEq, k25, c8, h54, h55]
    have x9 := nu_len 9 e.reason
    refine ct55 hg (lo := lo8) (acc := (accA e)) L8 (by simp only [List.length_append, List.length_nil]; omega) h49 hE.re fun τ9 H9 n9 lo9 L9 hn9 hf9 => ?_
    have b9 : H9 0 = evO := (hf9 0 (by decide)).trans b8
    have c9 := b9
    rw [hevO] at c9
    have hacc : (accA e) ++ nuF 9 e.reason = fldsE e := by rw [fldsE, hoff]; simp [offF, accA, accB]
    rw [hacc] at L9
    have w0 : (0 = n9) = False := by have := L9.lt; simp; omega
    have hu9 : H9 n9 = .unborn := L9.un 0
    have hr16 : e.rds.length ≤ 16 := hE.rs.2.1
    have m1 : IntKind.i64.wrap (2 * (e.rds.length : Int)) = 2 * (e.rds.length : Int) := by rw [IntKind.wrap_i64]; omega
    have m2 : (0 : Int) ≤ 2 * (e.rds.length : Int) := by omega
    have m3 : 2 * (e.rds.length : Int) ≤ 4294967296 := by omega
    have m4 : 24 * (2 * (e.rds.length : Int)).toNat ≤ 281474976710656 := by omega
    simp +contextual only [go_sem, ↓reduceIte, Nat.reduceEqDiff, Nat.reduceAdd, Nat.reduceLeDiff, Nat.reduceLT, reduceCtorEq, k25, c9, hu9, m1, m2, m3, m4, List.length_map, Int.le_refl, Int.toNat_natCast, Int.toNat_zero, List.replicate_zero, w0]
    refine TriI.loopL hg k25 e.rds (fun i (p : EnL) => ⟨slotsL [(1, .ref 0 0 0), (5, .ref 1 0 0), (8, .own p.id 0 (numsE p.pre).length), (62, Cod.enc e.rds), (63, .sc (.int .i64 e.rds.length)), (64, .sc (.int .i64 i))], p.H, p.n⟩) (EnInv (fldsE e) e.rds lo9) ⟨[], n9, n9 + 1, updH H9 n9 (.live 1 [] true)⟩ (.slots ?_) ⟨rfl, ?_, ⟨by dsimp only; omega, by dsimp only; omega⟩, ?_, updH_at⟩ ?_ ?_
    · simp +contextual only [go_sem, ↓reduceIte, Nat.reduceEqDiff, Nat.reduceAdd, Nat.reduceLeDiff, Nat.reduceLT, reduceCtorEq, List.length_map]
      exact ⟨rfl, rfl⟩
    · refine L9.keep (by dsimp only; omega) (fun k => ?_) (updH_ne (by omega)) fun id hid => updH_ne ?_
      · exact (updH_ne (by dsimp only; omega)).trans ((congrArg H9 (Nat.add_assoc _ _ _)).trans (L9.un _))
      · have := (L9.id_lt hid).2
        omega
    · intro hid
      have := (L9.id_lt hid).2
      dsimp only at this
      omega
    · rintro ⟨pre, id, n, H⟩ ⟨g1, g2, g3, g4, g5⟩
      dsimp only at g1 g2 g3 g4 g5 ⊢
      rw [List.append_nil] at g1
      subst g1
      have hno := nums_ok hE.rs
      have q1 : (numsE e.rds).length ≤ 256 ∧ (encL (numsE e.rds)).length ≤ 1000000 := ⟨hno.1.1, hno.1.2.2⟩
      have q2 := flds_ok hE
      have q3 : (fldsA e).length ≤ 256 ∧ okTags 0 (fldsA e) ∧ (encFl (fldsA e)).length ≤ 1000000 := ⟨q2.2.1, q2.1, q2.2.2.2⟩
      have y0 : (1 = id) = False := by simp; omega
      have gc := g2.cell
      have hun := g2.un
      have hok : ∀ l : List UInt8, okE 2 (.agg [.sc (.int .i64 10), .slice 1 (l.map Cod.enc)]) = true := fun _ => rfl
      have hfl : (fldsE e).length ≤ 256 := by have := q2.2.1; rw [List.length_append] at this; omega
      have y4 : ∀ k, (n + k = id) = False := fun k => by simp; omega
      have y9 : ∀ k, (id = n + k) = False := fun k => by simp; omega
      have e1 : encE e = encFl (fldsA e) := rfl
      rw [e1]
      have hcat2 : ((fldsE e).map Cod.enc ++ [.agg [.sc (.int .i64 10), .slice 1 ((encL (numsE e.rds)).map Cod.enc)]] : List V) = (fldsA e).map Cod.enc := by rw [fldsA, List.map_append]; rfl
      have hlen : (fldsE e).length + 1 = (fldsA e).length := by rw [fldsA, List.length_append]; rfl
      cases lo9 with
      | none =>
        have hz : fldsE e = [] := g2.lv
        have hA : [(⟨10, encL (numsE e.rds)⟩ : FldD)] = fldsA e := by rw [fldsA, hz]; rfl
        simp +contextual only [go_sem, ↓reduceIte, Nat.reduceEqDiff, Nat.reduceAdd, Nat.reduceLeDiff, Nat.reduceLT, reduceCtorEq, k25, Int.lt_irrefl, decide_false, g5, h47, h48, isF_lst, tk_lst, List.length_map, Nat.zero_add, Nat.le_refl, and_self, q1, d0, decL_enc Cod.dec_enc, y0, y4, y9, gc, lvV, hun, hok, hA, q3, Nat.one_mul, Nat.mul_one, Nat.add_eq_left, Nat.left_eq_add, Nat.add_assoc]
      | some lid =>
        obtain ⟨r1, r2, r3⟩ := g2.lv
        have hne : lid ≠ id := fun h => g4 (by rw [h])
        have y5 : (lid = id) = False := eq_false hne
        have y6 : (id = lid) = False := eq_false (Ne.symm hne)
        have y8 : ∀ k, (lid = n + k) = False := fun k => by simp; omega
        have b1 : (fldsA e).length * 32 ≤ 68719476736 := by omega
        have b2 : (fldsA e).length ≤ 4294967296 := by omega
        generalize fldsA e = L at *
        have i1 := isF_flds L
        have i2 := tk_flds L
        simp +contextual only [go_sem, ↓reduceIte, Nat.reduceEqDiff, Nat.reduceAdd, Nat.reduceLeDiff, Nat.reduceLT, reduceCtorEq, k25, Int.lt_irrefl, decide_false, g5, h47, h48, isF_lst, tk_lst, List.length_map, Nat.zero_add, Nat.le_refl, and_self, q1, d0, decL_enc Cod.dec_enc, y0, y4, y9, y5, y6, y8, gc, lvV, hun, hok, r3, q3, hcat2, hlen, i1, i2, b1, b2, Nat.one_mul, Nat.mul_one, Nat.add_eq_left, Nat.left_eq_add, Nat.add_assoc]
    · rintro i ⟨pre, id, n, H⟩ x xs hd hlt hx ⟨g1, g2, g3, g4, g5⟩
      dsimp only at g1 g2 g3 g4 g5 ⊢
      have hw := wrap_nat hlt (by omega)
      have hu : H n = .unborn := g2.un 0
      have hun := g2.un
      have hp := hE.rs.2.2 x (by rw [g1]; simp)
      have p1 := hp.1
      have p2 := hp.2
      have y1 : (id = n) = False := by simp; omega
      have y2 : ∀ k, (id = n + k) = False := fun k => by simp; omega
      have y3 : (n = id) = False := by simp; omega
      have y4 : ∀ k, (n + k = id) = False := fun k => by simp; omega
      have y5 : ∀ k, (n + k = n) = (k = 0) := fun k => by simp
      simp +contextual only [go_sem, ↓reduceIte, Nat.reduceEqDiff, Nat.reduceAdd, Nat.reduceLeDiff, Nat.reduceLT, reduceCtorEq, k25, lt_dec hlt, hx, List.getElem?_map, Option.map_some, Int.natCast_nonneg, Int.toNat_natCast, hu]
      refine TriI.ofDrw hg k25 ?_
      have hok : ∀ l : List UInt8, okE 1 (.slice 1 (l.map Cod.enc)) = true := fun _ => rfl
      have hpl : pre.length ≤ 16 := by have := congrArg List.length g1; rw [List.length_append] at this; have := hE.rs.2.1; omega
      have hnl : (numsE pre).length = 2 * pre.length := numsE_len pre
      have b1 : ((numsE pre).length + 2) * 24 ≤ 68719476736 := by omega
      have b2 : (numsE pre).length ≤ 4294967294 := by omega
      simp +contextual only [go_sem, ↓reduceIte, Nat.reduceEqDiff, Nat.reduceAdd, Nat.reduceLeDiff, Nat.reduceLT, reduceCtorEq, k25, h49, p1, p2, hun, hw, y1, y2, g5, hok, b1, b2, Bool.and_self, and_self, List.length_map, Nat.add_eq_left, Nat.left_eq_add, Nat.add_assoc, Nat.zero_add]
      have hcat : ((numsE pre).map Cod.enc ++ [.slice 1 ((encI x.time).map Cod.enc), .slice 1 ((encI x.reg).map Cod.enc)] : List V) = (numsE (pre ++ [x])).map Cod.enc := by rw [nums_app, List.map_append]; rfl
      rw [hcat]
      refine ⟨by simp [apartI, apartAll, clash, List.range, List.range.loop, y1, y2, y3, y4, y5]; decide, ?_⟩
      refine againH fun H' hH' => ?_
      have hlid : ∀ lid, lo9 = some lid → lid < n ∧ lid ≠ id := fun lid h => ⟨(g2.id_lt h).2, fun h2 => g4 (by rw [h, h2])⟩
      refine ⟨⟨pre ++ [x], n + 10, n + 12, H'⟩, ⟨by rw [g1]; simp, g2.keep (by dsimp only; omega) (fun k => ?_) ?_ fun lid h => ?_, ⟨by dsimp only; omega, by dsimp only; omega⟩, ?_, ?_⟩, .slots ?_⟩
      · dsimp only
        rw [hH']
        (repeat (refine (updH_ne (by omega)).trans ?_))
        exact (congrArg H (Nat.add_assoc _ _ _)).trans (hun _)
      · dsimp only
        rw [hH']
        (repeat (refine (updH_ne (by omega)).trans ?_))
        rfl
      · obtain ⟨f1, f2⟩ := hlid lid h
        dsimp only
        rw [hH']
        (repeat (refine (updH_ne (by omega)).trans ?_))
        rfl
      · intro h
        have := (hlid _ h).1
        dsimp only at this
        omega
      · dsimp only
        rw [hH']
        exact updH_at
      · simp +contextual only [go_sem, ↓reduceIte, Nat.reduceEqDiff, Nat.reduceAdd, Nat.reduceLeDiff, Nat.reduceLT, reduceCtorEq, nums_app, List.length_append, List.length_cons, List.length_nil]
  | false =>
    rw [hoff] at c7
    have L8 := L7
    have b8 := b7
    have c8 := c7
    obtain ⟨lo8, hlo8⟩ : ∃ lo8, lo8 = lo7 := ⟨_, rfl⟩
    rw [← hlo8] at L8
    simp +contextual only [go_sem, ↓reduceIte, Nat.reduceEqDiff, Nat.reduceAdd, Nat.reduceLeDiff, Nat.reduceLT, reduceCtorEq, k25, c7, h54, h55]
    have x9 := nu_len 9 e.reason
    refine ct55 hg (lo := lo8) (acc := (accB e)) L8 (by simp only [List.length_append, List.length_nil]; omega) h49 hE.re fun τ9 H9 n9 lo9 L9 hn9 hf9 => ?_
    have b9 : H9 0 = evO := (hf9 0 (by decide)).trans b8
    have c9 := b9
    rw [hevO] at c9
    have hacc : (accB e) ++ nuF 9 e.reason = fldsE e := by rw [fldsE, hoff]; simp [offF, accA, accB]
    rw [hacc] at L9
    have w0 : (0 = n9) = False := by have := L9.lt; simp; omega
    have hu9 : H9 n9 = .unborn := L9.un 0
    have hr16 : e.rds.length ≤ 16 := hE.rs.2.1
    have m1 : IntKind.i64.wrap (2 * (e.rds.length : Int)) = 2 * (e.rds.length : Int) := by rw [IntKind.wrap_i64]; omega
    have m2 : (0 : Int) ≤ 2 * (e.rds.length : Int) := by omega
    have m3 : 2 * (e.rds.length : Int) ≤ 4294967296 := by omega
    have m4 : 24 * (2 * (e.rds.length : Int)).toNat ≤ 281474976710656 := by omega
    simp +contextual only [go_sem, ↓reduceIte, Nat.reduceEqDiff, Nat.reduceAdd, Nat.reduceLeDiff, Nat.reduceLT, reduceCtorEq, k25, c9, hu9, m1, m2, m3, m4, List.length_map, Int.le_refl, Int.toNat_natCast, Int.toNat_zero, List.replicate_zero, w0]
    refine TriI.loopL hg k25 e.rds (fun i (p : EnL) => ⟨slotsL [(1, .ref 0 0 0), (5, .ref 1 0 0), (8, .own p.id 0 (numsE p.pre).length), (62, Cod.enc e.rds), (63, .sc (.int .i64 e.rds.length)), (64, .sc (.int .i64 i))], p.H, p.n⟩) (EnInv (fldsE e) e.rds lo9) ⟨[], n9, n9 + 1, updH H9 n9 (.live 1 [] true)⟩ (.slots ?_) ⟨rfl, ?_, ⟨by dsimp only; omega, by dsimp only; omega⟩, ?_, updH_at⟩ ?_ ?_
    · simp +contextual only [go_sem, ↓reduceIte, Nat.reduceEqDiff, Nat.reduceAdd, Nat.reduceLeDiff, Nat.reduceLT, reduceCtorEq, List.length_map]
      exact ⟨rfl, rfl⟩
    · refine L9.keep (by dsimp only; omega) (fun k => ?_) (updH_ne (by omega)) fun id hid => updH_ne ?_
      · exact (updH_ne (by dsimp only; omega)).trans ((congrArg H9 (Nat.add_assoc _ _ _)).trans (L9.un _))
      · have := (L9.id_lt hid).2
        omega
    · intro hid
      have := (L9.id_lt hid).2
      dsimp only at this
      omega
    · rintro ⟨pre, id, n, H⟩ ⟨g1, g2, g3, g4, g5⟩
      dsimp only at g1 g2 g3 g4 g5 ⊢
      rw [List.append_nil] at g1
      subst g1
      have hno := nums_ok hE.rs
      have q1 : (numsE e.rds).length ≤ 256 ∧ (encL (numsE e.rds)).length ≤ 1000000 := ⟨hno.1.1, hno.1.2.2⟩
      have q2 := flds_ok hE
      have q3 : (fldsA e).length ≤ 256 ∧ okTags 0 (fldsA e) ∧ (encFl (fldsA e)).length ≤ 1000000 := ⟨q2.2.1, q2.1, q2.2.2.2⟩
      have y0 : (1 = id) = False := by simp; omega
      have gc := g2.cell
      have hun := g2.un
      have hok : ∀ l : List UInt8, okE 2 (.agg [.sc (.int .i64 10), .slice 1 (l.map Cod.enc)]) = true := fun _ => rfl
      have hfl : (fldsE e).length ≤ 256 := by have := q2.2.1; rw [List.length_append] at this; omega
      have y4 : ∀ k, (n + k = id) = False := fun k => by simp; omega
      have y9 : ∀ k, (id = n + k) = False := fun k => by simp; omega
      have e1 : encE e = encFl (fldsA e) := rfl
      rw [e1]
      have hcat2 : ((fldsE e).map Cod.enc ++ [.agg [.sc (.int .i64 10), .slice 1 ((encL (numsE e.rds)).map Cod.enc)]] : List V) = (fldsA e).map Cod.enc := by rw [fldsA, List.map_append]; rfl
      have hlen : (fldsE e).length + 1 = (fldsA e).length := by rw [fldsA, List.length_append]; rfl
      cases lo9 with
      | none =>
        have hz : fldsE e = [] := g2.lv
        have hA : [(⟨10, encL (numsE e.rds)⟩ : FldD)] = fldsA e := by rw [fldsA, hz]; rfl
        simp +contextual only [go_sem, ↓reduceIte, Nat.reduceEqDiff, Nat.reduceAdd, Nat.reduceLeDiff, Nat.reduceLT, reduceCtorEq, k25, Int.lt_irrefl, decide_false, g5, h47, h48, isF_lst, tk_lst, List.length_map, Nat.zero_add, Nat.le_refl, and_self, q1, d0, decL_enc Cod.dec_enc, y0, y4, y9, gc, lvV, hun, hok, hA, q3, Nat.one_mul, Nat.mul_one, Nat.add_eq_left, Nat.left_eq_add, Nat.add_assoc]
      | some lid =>
        obtain ⟨r1, r2, r3⟩ := g2.lv
        have hne : lid ≠ id := fun h => g4 (by rw [h])
        have y5 : (lid = id) = False := eq_false hne
        have y6 : (id = lid) = False := eq_false (Ne.symm hne)
        have y8 : ∀ k, (lid = n + k) = False := fun k => by simp; omega
        have b1 : (fldsA e).length * 32 ≤ 68719476736 := by omega
        have b2 : (fldsA e).length ≤ 4294967296 := by omega
        generalize fldsA e = L at *
        have i1 := isF_flds L
        have i2 := tk_flds L
        simp +contextual only [go_sem, ↓reduceIte, Nat.reduceEqDiff, Nat.reduceAdd, Nat.reduceLeDiff, Nat.reduceLT, reduceCtorEq, k25, Int.lt_irrefl, decide_false, g5, h47, h48, isF_lst, tk_lst, List.length_map, Nat.zero_add, Nat.le_refl, and_self, q1, d0, decL_enc Cod.dec_enc, y0, y4, y9, y5, y6, y8, gc, lvV, hun, hok, r3, q3, hcat2, hlen, i1, i2, b1, b2, Nat.one_mul, Nat.mul_one, Nat.add_eq_left, Nat.left_eq_add, Nat.add_assoc]
    · rintro i ⟨pre, id, n, H⟩ x xs hd hlt hx ⟨g1, g2, g3, g4, g5⟩
      dsimp only at g1 g2 g3 g4 g5 ⊢
      have hw := wrap_nat hlt (by omega)
      have hu : H n = .unborn := g2.un 0
      have hun := g2.un
      have hp := hE.rs.2.2 x (by rw [g1]; simp)
      have p1 := hp.1
      have p2 := hp.2
      have y1 : (id = n) = False := by simp; omega
      have y2 : ∀ k, (id = n + k) = False := fun k => by simp; omega
      have y3 : (n = id) = False := by simp; omega
      have y4 : ∀ k, (n + k = id) = False := fun k => by simp; omega
      have y5 : ∀ k, (n + k = n) = (k = 0) := fun k => by simp
      simp +contextual only [go_sem, ↓reduceIte, Nat.reduceEqDiff, Nat.reduceAdd, Nat.reduceLeDiff, Nat.reduceLT, reduceCtorEq, k25, lt_dec hlt, hx, List.getElem?_map, Option.map_some, Int.natCast_nonneg, Int.toNat_natCast, hu]
      refine TriI.ofDrw hg k25 ?_
      have hok : ∀ l : List UInt8, okE 1 (.slice 1 (l.map Cod.enc)) = true := fun _ => rfl
      have hpl : pre.length ≤ 16 := by have := congrArg List.length g1; rw [List.length_append] at this; have := hE.rs.2.1; omega
      have hnl : (numsE pre).length = 2 * pre.length := numsE_len pre
      have b1 : ((numsE pre).length + 2) * 24 ≤ 68719476736 := by omega
      have b2 : (numsE pre).length ≤ 4294967294 := by omega
      simp +contextual only [go_sem, ↓reduceIte, Nat.reduceEqDiff, Nat.reduceAdd, Nat.reduceLeDiff, Nat.reduceLT, reduceCtorEq, k25, h49, p1, p2, hun, hw, y1, y2, g5, hok, b1, b2, Bool.and_self, and_self, List.length_map, Nat.add_eq_left, Nat.left_eq_add, Nat.add_assoc, Nat.zero_add]
      have hcat : ((numsE pre).map Cod.enc ++ [.slice 1 ((encI x.time).map Cod.enc), .slice 1 ((encI x.reg).map Cod.enc)] : List V) = (numsE (pre ++ [x])).map Cod.enc := by rw [nums_app, List.map_append]; rfl
      rw [hcat]
      refine ⟨by simp [apartI, apartAll, clash, List.range, List.range.loop, y1, y2, y3, y4, y5]; decide, ?_⟩
      refine againH fun H' hH' => ?_
      have hlid : ∀ lid, lo9 = some lid → lid < n ∧ lid ≠ id := fun lid h => ⟨(g2.id_lt h).2, fun h2 => g4 (by rw [h, h2])⟩
      refine ⟨⟨pre ++ [x], n + 10, n + 12, H'⟩, ⟨by rw [g1]; simp, g2.keep (by dsimp only; omega) (fun k => ?_) ?_ fun lid h => ?_, ⟨by dsimp only; omega, by dsimp only; omega⟩, ?_, ?_⟩, .slots ?_⟩
      · dsimp only
        rw [hH']
        (repeat (refine (updH_ne (by omega)).trans ?_))
        exact (congrArg H (Nat.add_assoc _ _ _)).trans (hun _)
      · dsimp only
        rw [hH']
        (repeat (refine (updH_ne (by omega)).trans ?_))
        rfl
      · obtain ⟨f1, f2⟩ := hlid lid h
        dsimp only
        rw [hH']
        (repeat (refine (updH_ne (by omega)).trans ?_))
        rfl
      · intro h
        have := (hlid _ h).1
        dsimp only at this
        omega
      · dsimp only
        rw [hH']
        exact updH_at
      · simp +contextual only [go_sem, ↓reduceIte, Nat.reduceEqDiff, Nat.reduceAdd, Nat.reduceLeDiff, Nat.reduceLT, reduceCtorEq, nums_app, List.length_append, List.length_cons, List.length_nil]
end Go.Proofs.YteocedfakgdckaaDoor
