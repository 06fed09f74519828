/- Chapter 12: edits; version.Apply, plain. -/
import Derived.Test.YtkcohhldmhdcfaaVzVeSb
namespace Go.Proofs.Ytkcohhldmhdcfaa
open Go.RowKit

/-- A file that is dropped: its level, its number. -/
def dropK : Kind (Int × Int) where
  sz := 2
  R _ _ cs d := cs = [.int .i64 d.1, .int .u64 d.2] ∧ i64In d.1 ∧ u64In d.2
  pos := by decide
  len := by rintro F w cs x ⟨rfl, _⟩; rfl
  keep := by rintro F w w' cs x h _; exact h
  mono := by rintro F F' w cs x h _; exact h
  one := by
    rintro F w cs x ⟨rfl, _⟩ u hu
    simp only [List.mem_cons, List.not_mem_nil, or_false] at hu
    rcases hu with rfl | rfl <;> rfl
/-- A file that is added, at a level. -/
def addK : Kind (Int × Fil) where
  sz := 7
  R F w cs a := ∃ vl vm, cs = addCells a.1 a.2 vl vm ∧ i64In a.1 ∧ Bytes F w vl a.2.least ∧ Bytes F w vm a.2.most ∧ a.2.wf
  pos := by decide
  len := by rintro F w cs x ⟨vl, vm, rfl, _⟩; rfl
  keep := by rintro F w w' cs x ⟨vl, vm, rfl, h0, h1, h2, h3⟩ hk; exact ⟨vl, vm, rfl, h0, h1.keep hk, h2.keep hk, h3⟩
  mono := by rintro F F' w cs x ⟨vl, vm, rfl, h0, h1, h2, h3⟩ hk; exact ⟨vl, vm, rfl, h0, h1.mono hk, h2.mono hk, h3⟩
  one := by
    rintro F w cs x ⟨vl, vm, rfl, _, h1, h2, _⟩ u hu
    have g1 := h1.oneCell
    have g2 := h2.oneCell
    simp only [addCells, filCells, List.mem_cons, List.not_mem_nil, or_false] at hu
    rcases hu with rfl | rfl | rfl | rfl | rfl | rfl | rfl <;> first | rfl | exact g1 | exact g2
def adat (l : List (Int × Fil)) (i : Nat) : Int × Fil := l.getD i (0, fil0)
theorem adat_eq {l : List (Int × Fil)} {i : Nat} (h : i < l.length) : l[i] = adat l i := by simp [adat, h]
theorem adat_mem {l : List (Int × Fil)} {i : Nat} (h : i < l.length) : adat l i ∈ l := by rw [← adat_eq h]; exact List.getElem_mem h
def dat (l : List (Int × Int)) (i : Nat) : Int × Int := l.getD i (0, 0)
theorem dat_eq {l : List (Int × Int)} {i : Nat} (h : i < l.length) : l[i] = dat l i := by simp [dat, h]
theorem drops_at {F : Nat → Prop} {w : World} {v : Value} {ds : List (Int × Int)} (h : Rw dropK F w v ds) (hne : 0 < ds.length) :
    ∃ b off cap, v = .slice (some ⟨b, off, none⟩) ds.length cap ∧ F b ∧ b < w.heap.size ∧ ∀ i, i < ds.length → i64In (dat ds i).1 ∧ u64In (dat ds i).2 ∧ w.cell? ⟨b, off + i * 2, none⟩ = some (.int .i64 (dat ds i).1) ∧ w.cell? ⟨b, off + i * 2 + 1, none⟩ = some (.int .u64 (dat ds i).2) := by
  obtain ⟨b, off, cap, e, hF, hb, _, _, hc⟩ := h.place hne
  refine ⟨b, off, cap, e, hF, hb, fun i hi => ?_⟩
  obtain ⟨cs, ⟨rfl, h1, h2⟩, hes⟩ := hc i hi
  rw [dat_eq hi] at h1 h2 hes
  exact ⟨h1, h2, hes 0 _ rfl, hes 1 _ rfl⟩
/-- The seven cells of an added file. -/
def C7 (b o : Nat) (a : Int × Fil) (vl vm : Value) (w : World) : Prop :=
  w.cell? ⟨b, o, none⟩ = some (.int .i64 a.1) ∧ w.cell? ⟨b, o + 1, none⟩ = some (.int .u64 a.2.num) ∧ w.cell? ⟨b, o + 2, none⟩ = some (.int .i64 a.2.size) ∧ w.cell? ⟨b, o + 3, none⟩ = some vl ∧ w.cell? ⟨b, o + 4, none⟩ = some vm ∧ w.cell? ⟨b, o + 5, none⟩ = some (.int .i64 a.2.ents) ∧ w.cell? ⟨b, o + 6, none⟩ = some (.int .u64 a.2.mseq)
theorem C7.keep {B b o : Nat} {a : Int × Fil} {vl vm : Value} {w w' : World} (h : C7 b o a vl vm w) (hb : Below B w w') (hz : b < B) : C7 b o a vl vm w' := by
  have e1 : ∀ k, w'.cell? ⟨b, k, none⟩ = w.cell? ⟨b, k, none⟩ := fun k => hb.cell (p := ⟨b, k, none⟩) hz
  unfold C7 at *
  simp only [e1]
  exact h
theorem C7.blk {b : Nat} {a : Int × Fil} {vl vm : Value} {w : World} {T : TypeId} (h : Blk w b (addCells a.1 a.2 vl vm).toArray T) : C7 b 0 a vl vm w :=
  ⟨h.cell rfl, h.cell rfl, h.cell rfl, h.cell rfl, h.cell rfl, h.cell rfl, h.cell rfl⟩
theorem adds_at {F : Nat → Prop} {w : World} {v : Value} {l : List (Int × Fil)} (h : Rw addK F w v l) (hne : 0 < l.length) :
    ∃ b off cap, v = .slice (some ⟨b, off, none⟩) l.length cap ∧ F b ∧ b < w.heap.size ∧ ∀ i, i < l.length → ∃ vl vm, i64In (adat l i).1 ∧ Bytes F w vl (adat l i).2.least ∧ Bytes F w vm (adat l i).2.most ∧ (adat l i).2.wf ∧ C7 b (off + i * 7) (adat l i) vl vm w := by
  obtain ⟨b, off, cap, e, hF, hb, _, _, hc⟩ := h.place hne
  refine ⟨b, off, cap, e, hF, hb, fun i hi => ?_⟩
  obtain ⟨cs, ⟨vl, vm, rfl, h0, h1, h2, h3⟩, hes⟩ := hc i hi
  rw [adat_eq hi] at h0 h1 h2 h3 hes
  exact ⟨vl, vm, h0, h1, h2, h3, hes 0 _ rfl, hes 1 _ rfl, hes 2 _ rfl, hes 3 _ rfl, hes 4 _ rfl, hes 5 _ rfl, hes 6 _ rfl⟩

/-- An edit. -/
structure Edi where
  drops : List (Int × Int)
  adds : List (Int × Fil)
  next : Int
  seq : Int
  log : Int
def ediCells (e : Edi) (dv av : Value) : List Value := [dv, av, .int .u64 e.next, .int .u64 e.seq, .int .u64 e.log]
structure EdiAt (F : Nat → Prop) (w : World) (e : Edi) (dv av : Value) : Prop where
  drops : Rw dropK F w dv e.drops
  adds : Rw addK F w av e.adds
  next : u64In e.next
  seq : u64In e.seq
  log : u64In e.log
theorem EdiAt.below {F : Nat → Prop} {w w' : World} {e : Edi} {dv av : Value} (h : EdiAt F w e dv av) (hb : Below w.heap.size w w') : EdiAt F w' e dv av := ⟨h.drops.below hb, h.adds.below hb, h.next, h.seq, h.log⟩
theorem EdiAt.mono {F F' : Nat → Prop} {w : World} {e : Edi} {dv av : Value} (h : EdiAt F w e dv av) (hk : ∀ k, k < w.heap.size → F k → F' k) : EdiAt F' w e dv av := ⟨h.drops.mono hk, h.adds.mono hk, h.next, h.seq, h.log⟩
theorem EdiAt.keep {F : Nat → Prop} {w w' : World} {e : Edi} {dv av : Value} (h : EdiAt F w e dv av) (hk : ∀ k, k < w.heap.size → F k → w'.heap[k]? = w.heap[k]?) : EdiAt F w' e dv av := ⟨h.drops.keep hk, h.adds.keep hk, h.next, h.seq, h.log⟩

/-- All drops, one by one. -/
def dropsLs (ls : List (List Fil)) (ds : List (Int × Int)) : Option (List (List Fil)) := ds.foldlM (fun ls d => dropLs ls d.1 d.2) ls
theorem dropsLs_more {ls ls' : List (List Fil)} {ds : List (Int × Int)} {k : Nat} (hk : k < ds.length) (h : dropsLs ls (ds.take k) = some ls') : dropsLs ls (ds.take (k + 1)) = dropLs ls' (dat ds k).1 (dat ds k).2 := by
  unfold dropsLs at *
  rw [List.take_succ_eq_append_getElem hk, List.foldlM_append, h, dat_eq hk]
  simp
theorem dropsLs_none {ls : List (List Fil)} {ds : List (Int × Int)} {k : Nat} (h : dropsLs ls (ds.take k) = none) : dropsLs ls ds = none := by
  rw [← List.take_append_drop k ds]
  unfold dropsLs at *
  rw [List.foldlM_append, h]
  rfl
/-- All adds, one by one. -/
def addsLs (ls : List (List Fil)) (l : List (Int × Fil)) : List (List Fil) := l.foldl (fun ls a => addLs ls a.1.toNat a.2) ls
theorem addsLs_more {ls : List (List Fil)} {l : List (Int × Fil)} {k : Nat} (hk : k < l.length) : addsLs ls (l.take (k + 1)) = addLs (addsLs ls (l.take k)) (adat l k).1.toNat (adat l k).2 := by
  unfold addsLs
  rw [List.take_succ_eq_append_getElem hk, List.foldl_append, adat_eq hk]
  rfl
def addNums (l : List (Int × Fil)) (k : Nat) : List Int := (l.take k).map fun a => a.2.num
theorem addNums_more {l : List (Int × Fil)} {k : Nat} (hk : k < l.length) : addNums l (k + 1) = addNums l k ++ [(adat l k).2.num] := by
  unfold addNums
  rw [List.take_succ_eq_append_getElem hk, adat_eq hk]
  simp
/-- Is a number there already, or twice among those added? -/
def ClashAt (ls : List (List Fil)) (l : List (Int × Fil)) (k : Nat) : Prop := (adat l k).2.num ∈ addNums l k ∨ hasNum ls (adat l k).2.num = true
def Clash (ls : List (List Fil)) (l : List (Int × Fil)) : Prop := ∃ k, k < l.length ∧ ClashAt ls l k
def OddAt (l : List (Int × Fil)) (k : Nat) : Prop := ¬ (0 ≤ (adat l k).1 ∧ (adat l k).1 < 5)
def OddLev (l : List (Int × Fil)) : Prop := ∃ k, k < l.length ∧ OddAt l k
def zeroV : Ver := ⟨[], 0, 0, 0⟩
def newV (ls : List (List Fil)) (e : Edi) : Ver := ⟨addsLs ls e.adds, e.next, e.seq, e.log⟩
open Classical in
/-- What Apply tells. -/
noncomputable def applyW (v : Ver) (e : Edi) : Ver × Int :=
  if chkW v = 0 then
    match dropsLs v.levels e.drops with
    | none => (zeroV, 6)
    | some ls => if Clash ls e.adds then (zeroV, 5) else if OddLev e.adds then (zeroV, 2) else if chkW (newV ls e) = 0 then (newV ls e, 0) else (zeroV, chkW (newV ls e))
  else (zeroV, chkW v)
theorem applyW_chk {v : Ver} {e : Edi} (h : chkW v ≠ 0) : applyW v e = (zeroV, chkW v) := by unfold applyW; rw [if_neg h]
theorem applyW_none {v : Ver} {e : Edi} (h : chkW v = 0) (hd : dropsLs v.levels e.drops = none) : applyW v e = (zeroV, 6) := by unfold applyW; rw [if_pos h, hd]
theorem applyW_clash {v : Ver} {e : Edi} {ls : List (List Fil)} (h : chkW v = 0) (hd : dropsLs v.levels e.drops = some ls) (hc : Clash ls e.adds) : applyW v e = (zeroV, 5) := by
  unfold applyW; rw [if_pos h, hd]; simp only [if_pos hc]
theorem applyW_odd {v : Ver} {e : Edi} {ls : List (List Fil)} (h : chkW v = 0) (hd : dropsLs v.levels e.drops = some ls) (hc : ¬ Clash ls e.adds) (ho : OddLev e.adds) : applyW v e = (zeroV, 2) := by
  unfold applyW; rw [if_pos h, hd]; simp only [if_neg hc, if_pos ho]
theorem applyW_bad {v : Ver} {e : Edi} {ls : List (List Fil)} (h : chkW v = 0) (hd : dropsLs v.levels e.drops = some ls) (hc : ¬ Clash ls e.adds) (ho : ¬ OddLev e.adds) (hb : chkW (newV ls e) ≠ 0) : applyW v e = (zeroV, chkW (newV ls e)) := by
  unfold applyW; rw [if_pos h, hd]; simp only [if_neg hc, if_neg ho, if_neg hb]
theorem applyW_ok {v : Ver} {e : Edi} {ls : List (List Fil)} (h : chkW v = 0) (hd : dropsLs v.levels e.drops = some ls) (hc : ¬ Clash ls e.adds) (ho : ¬ OddLev e.adds) (hb : chkW (newV ls e) = 0) : applyW v e = (newV ls e, 0) := by
  unfold applyW; rw [if_pos h, hd]; simp only [if_neg hc, if_neg ho, if_pos hb]

theorem dropLs_len {ls ls' : List (List Fil)} {lev num : Int} (h : dropLs ls lev num = some ls') : ls'.length = ls.length := by
  unfold dropLs at h
  split at h
  · split at h
    · injection h with h; rw [← h, List.length_set]
    · cases h
  · cases h
theorem lat_set {ls : List (List Fil)} {m i : Nat} {l : List Fil} (h : m < ls.length) : lat (ls.set m l) i = if m = i then l else lat ls i := by
  unfold lat
  by_cases e : m = i
  · subst e; rw [if_pos rfl]; simp [List.getD, h]
  · rw [if_neg e]; simp [List.getD, e]
theorem dropLs_lev {ls ls' : List (List Fil)} {lev num : Int} (h5 : ls.length = 5) (h : dropLs ls lev num = some ls') (i : Nat) : (lat ls' i).length ≤ (lat ls i).length ∧ ∀ f ∈ lat ls' i, f ∈ lat ls i := by
  unfold dropLs at h
  split at h
  · split at h
    · injection h with h
      rw [← h, lat_set (by omega)]
      split
      · rename_i e
        subst e
        exact ⟨List.length_eraseIdx_le .., fun f hf => List.mem_of_mem_eraseIdx hf⟩
      · exact ⟨Nat.le_refl _, fun f hf => hf⟩
    · cases h
  · cases h
theorem addLs_len (ls : List (List Fil)) (m : Nat) (f : Fil) : (addLs ls m f).length = ls.length := by unfold addLs; rw [List.length_set]
theorem addTo_len (l : List Fil) (lev : Int) (f : Fil) : (addTo l lev f).length = l.length + 1 := insAt_len List.findIdx_le_length
theorem mem_insAt {fs : List Fil} {i : Nat} {f g : Fil} (h : g ∈ insAt fs i f) : g = f ∨ g ∈ fs := by
  unfold insAt at h
  rcases List.mem_append.1 h with h | h
  · exact .inr (List.mem_of_mem_take h)
  · rcases List.mem_cons.1 h with h | h
    · exact .inl h
    · exact .inr (List.mem_of_mem_drop h)
theorem addLs_lev {ls : List (List Fil)} {m : Nat} {f : Fil} (hm : m < ls.length) (i : Nat) : (lat (addLs ls m f) i).length ≤ (lat ls i).length + 1 ∧ ∀ g ∈ lat (addLs ls m f) i, g = f ∨ g ∈ lat ls i := by
  unfold addLs
  rw [lat_set hm]
  split
  · rename_i e
    subst e
    exact ⟨by rw [addTo_len]; exact Nat.le_refl _, fun g hg => mem_insAt hg⟩
  · exact ⟨by omega, fun g hg => .inr hg⟩
end Go.Proofs.Ytkcohhldmhdcfaa
