/- Records: Offline changes only Offline. -/
import Derived.Test.YtoccifhckpjfaaaRec37f
namespace Go.Proofs.Ytoccifhckpjfaaa
set_option linter.all false
open Go.Idl
set_option maxHeartbeats 16000000
set_option maxRecDepth 100000
attribute [local go_sem] agRec Try.underlying3 Try.underlying5 Try.underlying9 Try.underlying4 Try.underlying30 Try.underlying22 Try.underlying25
def setO (b : Bool) (e : EvD) : EvD := ⟨e.station, e.txn, e.conn, e.seq, e.kind, e.time, e.token, b, e.reason, e.rds⟩
theorem evS_setO (b : Bool) (e : EvD) : evS (setO b e) = evS e := rfl
theorem setO_setO (b c : Bool) (e : EvD) : setO b (setO c e) = setO b e := rfl
theorem badE_setO (b : Bool) (l : List EvD) : badE (l.map (setO b)) = badE l := by
  induction l with
  | nil => rfl
  | cons x l ih => rw [List.map_cons, badE, badE, ih]; rfl
theorem keysB_setO (b : Bool) (l : List EvD) : keysB (l.map (setO b)) = keysB l := by
  rw [Bool.eq_iff_iff, keysB_iff, keysB_iff]
  constructor
  · intro h x y hx hy
    exact h (setO b x) (setO b y) (List.mem_map_of_mem hx) (List.mem_map_of_mem hy)
  · intro h x y hx hy
    obtain ⟨x', hx', rfl⟩ := List.mem_map.1 hx
    obtain ⟨y', hy', rfl⟩ := List.mem_map.1 hy
    exact h x' y' hx' hy'
theorem order_setO (b : Bool) (l : List EvD) : orderS (l.map (setO b)) = ((orderS (l.map (setO false))).1.map (setO b), (orderS (l.map (setO false))).2) := by
  rw [orderS_def, orderS_def, badE_setO, badE_setO, keysB_setO, keysB_setO]
  have d1 := ded_sort (l.map (setO b))
  have d0 := ded_sort (l.map (setO false))
  generalize dedE [] none (sortS (l.map (setO b))) = rb at *
  generalize dedE [] none (sortS (l.map (setO false))) = r0 at *
  have hr : rb = r0.map (fun D => D.map (setO b)) := by
    cases r0 with
    | some D0 =>
      have m0 : ∀ e, e ∈ l → setO false e ∈ D0 := fun e he => (d0.2 _).2 (.inr (List.mem_map_of_mem he))
      cases rb with
      | some Db =>
        refine congrArg some (srt_eq d1.1 ?_ fun x => ?_)
        · rw [List.pairwise_map]; exact d0.1
        · rw [d1.2 x]
          simp only [List.not_mem_nil, false_or, List.mem_map]
          constructor
          · rintro ⟨e, he, rfl⟩
            exact ⟨setO false e, m0 e he, rfl⟩
          · rintro ⟨d, hd, rfl⟩
            have := (d0.2 d).1 hd
            simp only [List.not_mem_nil, false_or, List.mem_map] at this
            obtain ⟨e, he, rfl⟩ := this
            exact ⟨e, he, rfl⟩
      | none =>
        obtain ⟨x, y, g1, g2, g3, g4⟩ := d1
        obtain ⟨e1, h1, rfl⟩ := List.mem_map.1 (g1.resolve_left (by simp))
        obtain ⟨e2, h2, rfl⟩ := List.mem_map.1 g2
        have := srt_inj d0.1 (m0 e1 h1) (m0 e2 h2) g3
        exact absurd (congrArg (setO b) this) g4
    | none =>
      cases rb with
      | some Db =>
        have mb : ∀ e, e ∈ l → setO b e ∈ Db := fun e he => (d1.2 _).2 (.inr (List.mem_map_of_mem he))
        obtain ⟨x, y, g1, g2, g3, g4⟩ := d0
        obtain ⟨e1, h1, rfl⟩ := List.mem_map.1 (g1.resolve_left (by simp))
        obtain ⟨e2, h2, rfl⟩ := List.mem_map.1 g2
        have := srt_inj d1.1 (mb e1 h1) (mb e2 h2) g3
        exact absurd (congrArg (setO false) this) g4
      | none => rfl
  rw [hr]
  cases badE l != 0 <;> cases keysB l <;> cases r0 <;> rfl
theorem mrgE_setO (b : Bool) : ∀ (l : List EvD) (acc : List Rdg), mrgE acc (l.map (setO b)) = mrgE acc l
  | [], _ => rfl
  | x :: l, acc => by
    rw [List.map_cons, mrgE, mrgE, mrgE_setO b l]
    rfl
theorem badM_setO (b : Bool) (c : Int) : ∀ l : List EvD, badM c (l.map (setO b)) = badM c l
  | [] => rfl
  | x :: l => by
    have h0 : decide (l.map (setO b) ≠ []) = decide (l ≠ []) := by simp
    rw [List.map_cons, badM, badM, badM_setO b c l, h0]
    rfl
theorem complS_setO (b : Bool) (l : List EvD) : complS (l.map (setO b)) = complS l := by
  have h1 : has0 (l.map (setO b)) = has0 l := by rw [has0, has0, List.any_map]; rfl
  have h2 : hasE (l.map (setO b)) = hasE l := by rw [hasE, hasE, List.any_map]; rfl
  rw [complS, complS, h1, h2]
/-- Two results but for Offline. -/
structure OffR (b : Bool) (r x : RecD × Int) : Prop where
  err : r.2 = x.2
  same : sameRec r.1 x.1 = true
  off : r.2 = 0 → r.1.offline = false ∧ x.1.offline = b
theorem OffR.bad (b : Bool) {f : Int} (h : f ≠ 0) : OffR b (zeroR, f) (zeroR, f) := ⟨rfl, sameRec_self _, fun h0 => absurd h0 h⟩
theorem sameRec_off (s e : EvD) (o o' : Bool) (g : List Rdg) (t : Int) : sameRec (recOf s e o g t) (recOf s e o' g t) = true := by
  have := sameRec_self (recOf s e o g t)
  exact this
theorem bne_of {f : Int} (h : (f != 0) = true) : f ≠ 0 := by simpa using h
theorem makeE_setO (b : Bool) {D : List EvD} (m : Int) (hne : D ≠ []) (h0 : ∀ x, x ∈ D → x.offline = false) : OffR b (makeE D m) (makeE (D.map (setO b)) m) := by
  have hh : hdE (D.map (setO b)) = setO b (hdE D) := by
    cases D with
    | nil => exact absurd rfl hne
    | cons x l => rfl
  have ht : ltE (D.map (setO b)) = setO b (ltE D) := by
    rw [ltE, ltE, List.getLast?_map]
    cases h : D.getLast? with
    | none => exact absurd (List.getLast?_eq_none_iff.1 h) hne
    | some x => rfl
  have ho : offS (D.map (setO b)) = b := by
    rw [offS, List.any_map]
    cases D with
    | nil => exact absurd rfl hne
    | cons x l =>
      rw [List.any_cons]
      show (b || _) = b
      cases b with
      | true => rfl
      | false =>
        rw [Bool.false_or, List.any_eq_false]
        intro x _ h
        cases h
  have ho0 : offS D = false := by
    rw [offS, List.any_eq_false]
    intro x hx h
    rw [h0 x hx] at h; cases h
  unfold makeE
  rw [complS_setO, hh, ht, mrgE_setO, ho, ho0]
  have hb2 : badM (setO b (hdE D)).conn (D.map (setO b)) = badM (hdE D).conn D := badM_setO b _ D
  have hr2 : rdOff (setO b (hdE D)) (setO b (ltE D)) (mrgE [] D).1 = rdOff (hdE D) (ltE D) (mrgE [] D).1 := rfl
  rw [hb2, hr2]
  cases complS D
  · exact .bad b (by decide)
  cases badM (hdE D).conn D
  case true => exact .bad b (by decide)
  cases h1 : ((mrgE [] D).2 != 0)
  case true => exact .bad b (bne_of h1)
  cases rdOff (hdE D) (ltE D) (mrgE [] D).1
  case true => exact .bad b (by decide)
  cases h2 : ((totS (mrgE [] D).1 m).2 != 0)
  case true => exact .bad b (bne_of h2)
  cases decide ((totS (mrgE [] D).1 m).1 > 1099511627776)
  case true => exact .bad b (by decide)
  exact ⟨rfl, sameRec_off _ _ _ _ _ _, fun _ => ⟨rfl, rfl⟩⟩
theorem make_setO (b : Bool) (l : List EvD) (m : Int) : OffR b (makeS (l.map (setO false)) m) (makeS (l.map (setO b)) m) := by
  have hl : (l.map (setO b)).length = (l.map (setO false)).length := by simp
  rw [makeS, makeS, hl]
  cases h0 : decide ((l.map (setO false)).length = 0)
  case true => exact .bad b (by decide)
  rw [order_setO b l]
  cases h1 : ((orderS (l.map (setO false))).2 != 0)
  case true =>
    rw [cond_false, cond_true, cond_false, cond_true]
    exact .bad b (bne_of h1)
  have hok : (orderS (l.map (setO false))).2 = 0 := by simpa using h1
  have hn : 1 ≤ (l.map (setO false)).length := by
    have : (l.map (setO false)).length ≠ 0 := by simpa using h0
    omega
  obtain ⟨g1, g2, g3, g4⟩ := orderS_ok hn hok
  rw [cond_false, cond_false, cond_false, cond_false]
  refine makeE_setO b m (fun h => by rw [h] at g4; simp at g4) fun x hx => ?_
  obtain ⟨e, _, rfl⟩ := List.mem_map.1 (g2 x hx)
  rfl
end Go.Proofs.Ytoccifhckpjfaaa
