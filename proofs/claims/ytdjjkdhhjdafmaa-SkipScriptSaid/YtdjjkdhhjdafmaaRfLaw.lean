/- The document's table and the skip list tell the same: plain law. -/
import Derived.Test.YtdjjkdhhjdafmaaRf07C
import Derived.Test.YtdjjkdhhjdafmaaSkSeek
namespace Go.Proofs.Ytdjjkdhhjdafmaa
open Go.RowKit

/-- The heights of towers. -/
def highs (ts : List Tw) : List Nat := ts.map Tw.h
theorem highs_len (ts : List Tw) : (highs ts).length = (ents ts).length := by simp [highs, ents]
theorem ents_len (ts : List Tw) : (ents ts).length = ts.length := by simp [ents]

theorem placeOf_ahead (e : Ent) : ∀ ts : List Tw, placeOf e (ents ts) = (ahead e ts).length
  | [] => rfl
  | t :: ts => by
    show placeOf e (t.e :: ents ts) = _
    unfold ahead
    rw [List.takeWhile_cons]
    by_cases h : Ent.cmp t.e e < 0
    · rw [placeOf_lt _ h, decide_eq_true h, if_pos rfl, List.length_cons, placeOf_ahead e ts]
      unfold ahead
      omega
    · rw [placeOf_ge _ h, decide_eq_false h, if_neg (by decide)]
      rfl
theorem ahead_take (e : Ent) (ts : List Tw) : ts.take (ahead e ts).length = ahead e ts := by
  have h := ahead_behind e ts
  have h2 : (ahead e ts ++ behind e ts).take (ahead e ts).length = ahead e ts := List.take_left' rfl
  rwa [h] at h2
theorem behind_drop (e : Ent) (ts : List Tw) : ts.drop (ahead e ts).length = behind e ts := by
  have h := ahead_behind e ts
  have h2 : (ahead e ts ++ behind e ts).drop (ahead e ts).length = behind e ts := List.drop_left' rfl
  rwa [h] at h2
theorem place_head (e : Ent) (ts : List Tw) : ts[placeOf e (ents ts)]? = (behind e ts).head? := by
  rw [placeOf_ahead, ← behind_drop e ts, List.head?_drop]

theorem refSeek_eq (key : List UInt8) (seq : Int) (ts : List Tw) : refSeek (plc key seq) (ents ts) = seekOf key seq ts := by
  have h := place_head (plc key seq) ts
  unfold refSeek seekOf
  rw [← h]
  generalize placeOf (plc key seq) (ents ts) = i
  unfold ents
  rw [List.getElem?_map]
theorem refGet_eq (key : List UInt8) (seq : Int) (ts : List Tw) : refGet key seq (ents ts) = getOf key seq ts := by
  unfold refGet getOf
  rw [refSeek_eq]
  unfold seekOf
  cases behind (plc key seq) ts with
  | nil => rfl
  | cons t r => rfl
theorem isOf_found (e : Ent) (ts : List Tw) : isOf e (ents ts) (placeOf e (ents ts)) = (found e ts).isSome := by
  have h := place_head e ts
  unfold isOf found
  have h2 : (ents ts)[placeOf e (ents ts)]? = ((behind e ts).head?).map Tw.e := by
    rw [← h]
    generalize placeOf e (ents ts) = i
    unfold ents
    rw [List.getElem?_map]
  rw [h2]
  cases behind e ts with
  | nil => rfl
  | cons t r =>
    show (Ent.cmp t.e e == 0) = (if t.e.seq = e.seq ∧ t.e.key = e.key then some t else none).isSome
    by_cases h : t.e.seq = e.seq ∧ t.e.key = e.key
    · rw [if_pos h, ecmp_of h.2 h.1]; rfl
    · rw [if_neg h]
      show (Ent.cmp t.e e == 0) = false
      exact beq_eq_false_iff_ne.2 fun h0 => h ⟨(ecmp_zero h0).2, (ecmp_zero h0).1⟩
theorem refHeight_eq (e : Ent) (ts : List Tw) : refHeight e (ents ts) (highs ts) = heightOf e ts := by
  have h := place_head e ts
  unfold refHeight heightOf
  rw [isOf_found]
  unfold found
  cases hb : behind e ts with
  | nil => rfl
  | cons t r =>
    rw [hb] at h
    by_cases hc : t.e.seq = e.seq ∧ t.e.key = e.key
    · simp only [if_pos hc, Option.isSome_some, if_true]
      generalize placeOf e (ents ts) = i at *
      unfold highs
      simp only [List.getD, List.getElem?_map, h]
      rfl
    · simp only [if_neg hc, Option.isSome_none]
      rfl

theorem stepsOf_bare : ∀ (L : Nat) (ts : List Tw), stepsOf L (bare (highs ts)) = stepsOf L ts := by
  have hrest : ∀ (k : Nat) (ts : List Tw), (restH k (bare (highs ts))) = (restH k ts).map fun s => bare (highs s) := by
    intro k ts
    induction ts with
    | nil => rfl
    | cons t r ih =>
      show (match restH k (bare (highs r)) with | some s => some s | none => if k < t.h then some (bare (highs r)) else none) = _
      rw [ih]
      show _ = Option.map (fun s => bare (highs s)) (match restH k r with | some s => some s | none => if k < t.h then some r else none)
      cases restH k r with
      | some s => rfl
      | none =>
        by_cases h : k < t.h
        · simp [h]
        · simp [h]
  intro L
  induction L with
  | zero => intro ts; rfl
  | succ L ih =>
    intro ts
    show (bare (highs ts)).countP (fun t => decide (L < t.h)) + 1 + stepsOf L ((restH L (bare (highs ts))).getD (bare (highs ts))) = ts.countP (fun t => decide (L < t.h)) + 1 + stepsOf L ((restH L ts).getD ts)
    have h1 : (bare (highs ts)).countP (fun t => decide (L < t.h)) = ts.countP (fun t => decide (L < t.h)) := by
      unfold bare highs
      rw [List.countP_map, List.countP_map]
      rfl
    have h2 : (restH L (bare (highs ts))).getD (bare (highs ts)) = bare (highs ((restH L ts).getD ts)) := by
      rw [hrest]
      cases restH L ts <;> rfl
    rw [h1, h2, ih]
theorem hsteps_eq (e : Ent) (ts : List Tw) : hsteps 12 ((highs ts).take (placeOf e (ents ts))) = stepsOf 12 (ahead e ts) := by
  unfold hsteps
  have h : (highs ts).take (placeOf e (ents ts)) = highs (ahead e ts) := by
    rw [placeOf_ahead]
    unfold highs
    rw [← List.map_take, ahead_take]
  rw [h, stepsOf_bare]

/-- What the document's Insert says, said of towers. -/
theorem refIns_of {e : Ent} {h : Int} {ts ts' : List Tw} {c c' : Nat} {es' : List Ent} {hs' : List Nat} (hi : InsSays e h ts c ts') (hr : RefIns e h (ents ts) (highs ts) c' es' hs') : c' = c ∧ es' = ents ts' ∧ hs' = highs ts' := by
  have hf : isOf (plc e.key e.seq) (ents ts) (placeOf (plc e.key e.seq) (ents ts)) = (found e ts).isSome := by rw [isOf_found, found_plc]
  rcases hi with ⟨h1, h2, h3⟩ | ⟨h1, h2, h3, h4⟩ | ⟨h1, h2, h3, h4, h5, h6⟩ | ⟨h1, h2, h3, h4, h5, X, h6⟩
  · rcases hr with ⟨g1, g2, g3, g4⟩ | ⟨g1, _⟩ | ⟨g1, _⟩ | ⟨g1, _⟩
    · subst h3; exact ⟨by rw [g2, h2], g3, g4⟩
    · exact absurd g1 h1
    · exact absurd g1 h1
    · exact absurd g1 h1
  · rcases hr with ⟨g1, _⟩ | ⟨g1, g2, g3, g4, g5⟩ | ⟨g1, g2, g3, _⟩ | ⟨g1, g2, g3, _⟩
    · exact absurd h1 g1
    · subst h4; exact ⟨by rw [g3, h3], g4, g5⟩
    · omega
    · omega
  · rcases hr with ⟨g1, _⟩ | ⟨g1, g2, _⟩ | ⟨g1, g2, g3, g4, g5, g6, g7⟩ | ⟨g1, g2, g3, g4, _⟩
    · exact absurd h1 g1
    · omega
    · subst h6; exact ⟨by rw [g5, h5], g6, g7⟩
    · rw [hf] at g4
      cases hfo : found e ts with
      | none => exact absurd hfo h4
      | some t => rw [hfo] at g4; cases g4
  · rcases hr with ⟨g1, _⟩ | ⟨g1, g2, _⟩ | ⟨g1, g2, g3, g4, _⟩ | ⟨g1, g2, g3, g4, g5, g6, g7⟩
    · exact absurd h1 g1
    · omega
    · rw [hf, h4] at g4; cases g4
    · have hp : placeOf (plc e.key e.seq) (ents ts) = (ahead e ts).length := placeOf_ahead (plc e.key e.seq) ts
      rw [hp] at g6 g7
      refine ⟨by rw [g5, h5], ?_, ?_⟩
      · rw [g6, h6]
        unfold ents
        rw [← List.map_take, ← List.map_drop, ahead_take, behind_drop, List.map_append, List.map_cons, List.append_assoc]
        rfl
      · rw [g7, h6]
        unfold highs
        rw [← List.map_take, ← List.map_drop, ahead_take, behind_drop, List.map_append, List.map_cons, List.append_assoc]
        rfl
end Go.Proofs.Ytdjjkdhhjdafmaa
