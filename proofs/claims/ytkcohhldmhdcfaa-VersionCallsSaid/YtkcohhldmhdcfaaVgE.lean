/- Chapter 12's document: Apply. -/
import Derived.Test.YtkcohhldmhdcfaaVgD
namespace Go.Proofs.Ytkcohhldmhdcfaa
open Go.RowKit

/-- Five levels, in a block; what they hold lies in N. -/
structure LvAt (N : Nat → Prop) (g : Nat) (ls : List (List Fil)) (w : World) : Prop where
  blk : ∃ us : Array Value, Blk w g us 33 ∧ 5 ≤ us.size ∧ ∀ i, i < 5 → ∃ a c, us[i]? = some (.slice a (lat ls i).length c) ∧ Rw filK N w (.slice a (lat ls i).length c) (lat ls i)
  five : ls.length = 5
theorem LvAt.keep {N : Nat → Prop} {g : Nat} {ls : List (List Fil)} {w w' : World} (h : LvAt N g ls w) (hk : ∀ k, k < w.heap.size → (k = g ∨ N k) → w'.heap[k]? = w.heap[k]?) : LvAt N g ls w' := by
  obtain ⟨us, h1, h2, h3⟩ := h.blk
  refine ⟨⟨us, h1.same (hk g h1.lt (.inl rfl)), h2, fun i hi => ?_⟩, h.five⟩
  obtain ⟨a, c, e, hr⟩ := h3 i hi
  exact ⟨a, c, e, hr.keep fun k hk' hN => hk k hk' (.inr hN)⟩
theorem LvAt.below {N : Nat → Prop} {g : Nat} {ls : List (List Fil)} {w w' : World} (h : LvAt N g ls w) (hb : Below w.heap.size w w') : LvAt N g ls w' := h.keep fun k hk _ => hb.block k hk
theorem LvAt.get {N : Nat → Prop} {g : Nat} {ls : List (List Fil)} {w : World} (h : LvAt N g ls w) {i : Nat} (hi : i < 5) : ∃ a c, w.cell? ⟨g, i, none⟩ = some (.slice a (lat ls i).length c) ∧ Rw filK N w (.slice a (lat ls i).length c) (lat ls i) := by
  obtain ⟨us, h1, h2, h3⟩ := h.blk
  obtain ⟨a, c, e, hr⟩ := h3 i hi
  exact ⟨a, c, h1.cell e, hr⟩
theorem LvAt.free {N : Nat → Prop} {g : Nat} {ls : List (List Fil)} {w : World} (h : LvAt N g ls w) (i : Nat) : w.frozen? ⟨g, i, none⟩ = false := by
  obtain ⟨us, h1, _⟩ := h.blk
  exact h1.free i
theorem LvAt.lt {N : Nat → Prop} {g : Nat} {ls : List (List Fil)} {w : World} (h : LvAt N g ls w) : g < w.heap.size := by
  obtain ⟨us, h1, _⟩ := h.blk
  exact h1.lt
theorem LvAt.set {N : Nat → Prop} {g : Nat} {ls : List (List Fil)} {w : World} (h : LvAt N g ls w) (hN : ∀ k, N k → k ≠ g) {m : Nat} (hm : m < 5) {a : Option Addr} {c n : Nat} {l : List Fil} (hr : Rw filK N w (.slice a n c) l) : LvAt N g (ls.set m l) (w.setCell ⟨g, m, none⟩ (.slice a n c)) := by
  obtain ⟨us, h1, h2, h3⟩ := h.blk
  have hn : n = l.length := by
    obtain ⟨a', c', e⟩ := hr.isSlice
    injection e
  subst hn
  refine ⟨⟨us.setIfInBounds m (.slice a l.length c), h1.set m _, by simpa using h2, fun i hi => ?_⟩, by rw [List.length_set]; exact h.five⟩
  rw [lat_set (by rw [h.five]; exact hm)]
  by_cases e : m = i
  · subst e
    rw [if_pos rfl]
    exact ⟨a, c, by simp [show m < us.size by omega], hr.off_set _ _ fun k hk => hN k hk⟩
  · rw [if_neg e]
    obtain ⟨a', c', e', hr'⟩ := h3 i hi
    exact ⟨a', c', by simpa [Array.getElem?_setIfInBounds, e] using e', hr'.off_set _ _ fun k hk => hN k hk⟩
theorem LvAt.rows {N : Nat → Prop} {g : Nat} {ls : List (List Fil)} {w : World} (h : LvAt N g ls w) {cap : Nat} (h1 : 5 ≤ cap) (h2 : cap ≤ maxLen) : Rw (rowK filK) (fun k => k = g ∨ N k) w (.slice (some ⟨g, 0, none⟩) 5 cap) ls := by
  obtain ⟨us, hb, hs, hc⟩ := h.blk
  have hl : (us.toList.take 5).length = ls.length := by rw [List.length_take, h.five]; simp; omega
  have h5 := h.five
  refine ⟨us.toList.take 5, ⟨_, cap, by rw [h5], by omega, h2, (fun e => by cases e), by rw [hl]; exact (Nat.mul_one _).symm, fun j u hj => ⟨_, rfl, .inl rfl, ?_⟩⟩, els_rows ls _ hl fun k hk => ?_⟩
  · rw [add_plain', Nat.zero_add]
    refine hb.cell ?_
    rw [List.getElem?_take] at hj
    split at hj
    · simpa using hj
    · cases hj
  · obtain ⟨a, c, e, hr⟩ := hc k (by omega)
    refine ⟨_, ?_, by rw [lat_eq hk]; exact hr.mono fun _ _ h => .inr h⟩
    rw [List.getElem?_take, if_pos (by omega)]
    simpa using e
theorem LvAt.of {w : World} {r : Value} {ls : List (List Fil)} {B : Nat} (h : ROwnF (rowK filK) (fun k => B ≤ k) B 33 w r ls) (h5 : ls.length = 5) :
    ∃ g cap, r = .slice (some ⟨g, 0, none⟩) 5 cap ∧ B ≤ g ∧ 5 ≤ cap ∧ cap ≤ maxLen ∧ LvAt (fun k => B ≤ k ∧ k ≠ g) g ls w := by
  obtain ⟨cs, h1, h2⟩ := h
  obtain ⟨h0, ⟨rfl, hz⟩ | ⟨g, cap, cur, rfl, hb, hg, hnc, hcm, hs, htk⟩⟩ := id h1
  · omega
  · refine ⟨g, cap, by rw [h5], hb, by omega, hcm, ⟨cur, hg, by rw [hs]; show 5 ≤ cap * 1; omega, fun i hi => ?_⟩, h5⟩
    have hil : i < ls.length := by omega
    have hg2 := h2.get i hil
    obtain ⟨u, e, hr⟩ := hg2
    rw [lat_eq hil] at hr
    obtain ⟨a, c, rfl⟩ := hr.isSlice
    refine ⟨a, c, ?_, hr.mono fun k _ hk => ⟨hk.1, fun e => hk.2 (by rw [e]; rfl)⟩⟩
    have h3 : cs[i]? = some (.slice a (lat ls i).length c) := by
      have h4 : ((cs.drop (i * 1)).take 1)[0]? = some (Value.slice a (lat ls i).length c) := by
        have : (cs.drop (i * 1)).take 1 = [Value.slice a (lat ls i).length c] := e
        rw [this]; rfl
      rw [List.getElem?_take] at h4
      simpa using h4
    rw [← htk, List.getElem?_take] at h3
    split at h3
    · simpa using h3
    · cases h3

/-- What lies in memory while an edit is applied. -/
structure RaCtx (w0 : World) (b2 rb ob g cap : Nat) (v : Ver) (e : Edi) (dv av : Value) (ls : List (List Fil)) (w : World) : Prop where
  ed : Blk w b2 (ediCells e dv av).toArray 57
  res : Blk w rb zero4 25
  out : Blk w ob (verCells v (.slice (some ⟨g, 0, none⟩) 5 cap)).toArray 25
  lv : LvAt (fun k => k ≠ g ∧ k ≠ ob ∧ k ≠ rb) g ls w
  eat : EdiAt (fun k => k < w0.heap.size) w e dv av
  bel : Below w0.heap.size w0 w
  ne : g ≠ ob ∧ g ≠ rb ∧ g ≠ b2 ∧ ob ≠ rb ∧ ob ≠ b2 ∧ rb ≠ b2
  le : w0.heap.size ≤ g ∧ w0.heap.size ≤ ob ∧ w0.heap.size ≤ rb
  cap : 5 ≤ cap ∧ cap ≤ maxLen
theorem RaCtx.below {w0 : World} {b2 rb ob g cap : Nat} {v : Ver} {e : Edi} {dv av : Value} {ls : List (List Fil)} {w w' : World} (h : RaCtx w0 b2 rb ob g cap v e dv av ls w) (hb : Below w.heap.size w w') : RaCtx w0 b2 rb ob g cap v e dv av ls w' :=
  ⟨h.ed.below hb h.ed.lt, h.res.below hb h.res.lt, h.out.below hb h.out.lt, h.lv.below hb, h.eat.below hb, h.bel.trans (hb.mono h.bel.size), h.ne, h.le, h.cap⟩
theorem RaCtx.set {w0 : World} {b2 rb ob g cap : Nat} {v : Ver} {e : Edi} {dv av : Value} {ls : List (List Fil)} {w : World} (h : RaCtx w0 b2 rb ob g cap v e dv av ls w) {m : Nat} (hm : m < 5) {a : Option Addr} {c n : Nat} {l : List Fil} (hr : Rw filK (fun k => k ≠ g ∧ k ≠ ob ∧ k ≠ rb) w (.slice a n c) l) : RaCtx w0 b2 rb ob g cap v e dv av (ls.set m l) (w.setCell ⟨g, m, none⟩ (.slice a n c)) :=
  ⟨h.ed.set_other _ _ h.ne.2.2.1, h.res.set_other _ _ h.ne.2.1, h.out.set_other _ _ h.ne.1, h.lv.set (fun k hk => hk.1) hm hr, h.eat.keep fun k _ hk => heap_setCell_other _ _ _ _ (by show k ≠ g; have := h.le.1; omega), h.bel.setCell h.le.1 _, h.ne, h.le, h.cap⟩
/-- The head is written. -/
theorem RaCtx.head {w0 : World} {b2 rb ob g cap : Nat} {v : Ver} {e : Edi} {dv av : Value} {ls : List (List Fil)} {w : World} (h : RaCtx w0 b2 rb ob g cap v e dv av ls w) (ls' : List (List Fil)) : RaCtx w0 b2 rb ob g cap ⟨ls', e.next, e.seq, e.log⟩ e dv av ls (((w.setCell ⟨ob, 1, none⟩ (.int .u64 e.next)).setCell ⟨ob, 2, none⟩ (.int .u64 e.seq)).setCell ⟨ob, 3, none⟩ (.int .u64 e.log)) := by
  have hw : Wrote (fun k => k = ob) w (((w.setCell ⟨ob, 1, none⟩ (.int .u64 e.next)).setCell ⟨ob, 2, none⟩ (.int .u64 e.seq)).setCell ⟨ob, 3, none⟩ (.int .u64 e.log)) :=
    Wrote.setCell (S := fun k => k = ob) (Wrote.setCell (S := fun k => k = ob) (Wrote.setCell (S := fun k => k = ob) (Wrote.of_below (Below.refl _ _)) _ _ (.inl rfl)) _ _ (.inl rfl)) _ _ (.inl rfl)
  exact ⟨h.ed.same (hw.block _ h.ed.lt (fun e => h.ne.2.2.2.2.1 e.symm)), h.res.same (hw.block _ h.res.lt (fun e => h.ne.2.2.2.1 e.symm)), ((h.out.set 1 _).set 2 _).set 3 _, h.lv.keep fun k hk hx => hw.block k hk fun e => hx.elim (fun e2 => h.ne.1 (e2.symm.trans e)) (fun hn => hn.2.1 e), h.eat.keep fun k hk hF => hw.block k hk fun e => by have := h.le.2.1; omega, ((h.bel.setCell h.le.2.1 _).setCell h.le.2.1 _).setCell h.le.2.1 _, h.ne, h.le, h.cap⟩
/-- The version is told. -/
theorem RaCtx.fin {w0 : World} {b2 rb ob g cap : Nat} {v : Ver} {e : Edi} {dv av : Value} {ls : List (List Fil)} {w : World} (h : RaCtx w0 b2 rb ob g cap v e dv av ls w) {r : Ver × Int} (hr : r = (v, 0)) (hl : v.levels = ls) (x0 x1 x2 x3 : Value) :
    ∃ lv, Ending.returned (.tuple #[.agg (verCells v (.slice (some ⟨g, 0, none⟩) 5 cap)).toArray, .int .i64 0]) = .returned (.tuple #[.agg (verCells r.1 lv).toArray, .int .i64 r.2]) ∧ Rw (rowK filK) Any ((((w.setCell ⟨rb, 0, none⟩ x0).setCell ⟨rb, 1, none⟩ x1).setCell ⟨rb, 2, none⟩ x2).setCell ⟨rb, 3, none⟩ x3) lv r.1.levels ∧ Below w0.heap.size w0 ((((w.setCell ⟨rb, 0, none⟩ x0).setCell ⟨rb, 1, none⟩ x1).setCell ⟨rb, 2, none⟩ x2).setCell ⟨rb, 3, none⟩ x3) := by
  subst hr
  have hw : Wrote (fun k => k = rb) w ((((w.setCell ⟨rb, 0, none⟩ x0).setCell ⟨rb, 1, none⟩ x1).setCell ⟨rb, 2, none⟩ x2).setCell ⟨rb, 3, none⟩ x3) :=
    Wrote.setCell (S := fun k => k = rb) (Wrote.setCell (S := fun k => k = rb) (Wrote.setCell (S := fun k => k = rb) (Wrote.setCell (S := fun k => k = rb) (Wrote.of_below (Below.refl _ _)) _ _ (.inl rfl)) _ _ (.inl rfl)) _ _ (.inl rfl)) _ _ (.inl rfl)
  refine ⟨_, rfl, ?_, below_set4 h.bel h.le.2.2⟩
  show Rw (rowK filK) Any _ _ v.levels
  rw [hl]
  exact ((h.lv.rows h.cap.1 h.cap.2).keep fun k hk hx => hw.block k hk fun e => hx.elim (fun e2 => h.ne.2.1 (e2.symm.trans e)) (fun hn => hn.2.2 e)).any
/-- An error: the zero version is told. -/
theorem RaCtx.bad {w0 : World} {b2 rb ob g cap : Nat} {v : Ver} {e : Edi} {dv av : Value} {ls : List (List Fil)} {w : World} (h : RaCtx w0 b2 rb ob g cap v e dv av ls w) {r : Ver × Int} {c : Int} (hr : r = (zeroV, c)) :
    ∃ lv, Ending.returned (.tuple #[.agg zero4, .int .i64 c]) = .returned (.tuple #[.agg (verCells r.1 lv).toArray, .int .i64 r.2]) ∧ Rw (rowK filK) Any ((((w.setCell ⟨rb, 0, none⟩ (.slice none 0 0)).setCell ⟨rb, 1, none⟩ (.int .u64 0)).setCell ⟨rb, 2, none⟩ (.int .u64 0)).setCell ⟨rb, 3, none⟩ (.int .u64 0)) lv r.1.levels ∧ Below w0.heap.size w0 ((((w.setCell ⟨rb, 0, none⟩ (.slice none 0 0)).setCell ⟨rb, 1, none⟩ (.int .u64 0)).setCell ⟨rb, 2, none⟩ (.int .u64 0)).setCell ⟨rb, 3, none⟩ (.int .u64 0)) := by
  subst hr
  exact ⟨.slice none 0 0, rfl, Rw.nil _ _ _, below_set4 h.bel h.le.2.2⟩
/-- What Apply of the document leaves. -/
theorem small_of {v : Ver} (hc : chkW v = 0) (hf : cntTo v.levels 5 ≤ 100) : Small v.levels 100 := by
  have h5 := (good_small hc).1
  refine ⟨h5, fun i hi => ?_, fun i hi f hfm => ?_⟩
  · have h1 := lev_le_cnt (ls := v.levels) (i := i) (by omega)
    rw [h5] at h1
    omega
  · have h1 := (good_small hc).2.2 i (by omega) f hfm
    omega
theorem wrap64_next {i j : Nat} (h : i + 1 = j) (hb : j ≤ 1000000) : RowKit.wrap64 ((i : Int) + 1) = (j : Int) := by unfold RowKit.wrap64; omega
theorem wrapi_next {i j : Nat} (h : i + 1 = j) (hb : j ≤ 1000000) : IntKind.i64.wrap ((i : Int) + 1) = (j : Int) := by
  have h1 : (i : Int) + 1 = (j : Int) := by omega
  have h2 := @wrap_small ((i : Int) + 1) (by omega) (by omega)
  exact h2.trans h1
theorem putLs_lev {ls : List (List Fil)} {m : Nat} {f : Fil} (hm : m < ls.length) (i : Nat) : (lat (putLs ls m f) i).length ≤ (lat ls i).length + 1 ∧ ∀ g ∈ lat (putLs ls m f) i, g = f ∨ g ∈ lat ls i := by
  unfold putLs
  rw [lat_set hm]
  split
  · rename_i e
    subst e
    exact ⟨by unfold putTo; rw [insAt_len List.findIdx_le_length]; exact Nat.le_refl _, fun g hg => mem_insAt hg⟩
  · exact ⟨by omega, fun g hg => .inr hg⟩
theorem Small.put {ls : List (List Fil)} {n m : Nat} {f : Fil} (h : Small ls n) (hm : m < 5) (hf : f.least.length ≤ 100000000 ∧ f.most.length ≤ 100000000) : Small (putLs ls m f) (n + 1) :=
  ⟨(putLs_len _ _ _).trans h.five, fun i hi => Nat.le_trans (putLs_lev (by rw [h.five]; exact hm) i).1 (by have := h.len i hi; omega), fun i hi g hg => by
    rcases (putLs_lev (by rw [h.five]; exact hm) i).2 g hg with rfl | hg
    · exact hf
    · exact h.key i hi g hg⟩
theorem Small.more {ls : List (List Fil)} {n : Nat} (h : Small ls n) : Small ls (n + 1) := ⟨h.five, fun i hi => Nat.le_succ_of_le (h.len i hi), h.key⟩
theorem mem_addNums {l : List (Int × Fil)} {k : Nat} (hk : k ≤ l.length) {n : Int} : n ∈ addNums l k ↔ ∃ j, j < k ∧ (adat l j).2.num = n := by
  unfold addNums
  rw [List.mem_map]
  constructor
  · rintro ⟨a, ha, rfl⟩
    obtain ⟨j, hj, rfl⟩ := List.mem_iff_getElem.1 ha
    rw [List.length_take] at hj
    exact ⟨j, by omega, by rw [List.getElem_take, adat_eq (by omega)]⟩
  · rintro ⟨j, hj, rfl⟩
    exact ⟨adat l j, by rw [List.mem_iff_getElem]; exact ⟨j, by rw [List.length_take]; omega, by rw [List.getElem_take, adat_eq (by omega)]⟩, rfl⟩
theorem dropsLs_five {ls ls' : List (List Fil)} {ds : List (Int × Int)} (h5 : ls.length = 5) (h : dropsLs ls ds = some ls') : ls'.length = 5 := by
  unfold dropsLs at h
  induction ds generalizing ls with
  | nil =>
    injection h with h
    rw [← h]; exact h5
  | cons d ds ih =>
    rw [List.foldlM_cons] at h
    cases hd : dropLs ls d.1 d.2 with
    | none => rw [hd] at h; cases h
    | some l2 =>
      rw [hd] at h
      exact ih ((dropLs_len hd).trans h5) h
theorem drop_bad {ls : List (List Fil)} {lev num : Int} (h : ¬ (0 ≤ lev ∧ lev < 5)) : dropLs ls lev num = none := by unfold dropLs; rw [if_neg h]
theorem drop_none {ls : List (List Fil)} {m : Nat} {num : Int} (hm : m < 5) (h : plcI (lat ls m) num < 0) : dropLs ls (m : Int) num = none := by
  unfold plcI at h
  unfold dropLs
  rw [if_pos ⟨by omega, by omega⟩, Int.toNat_natCast, if_neg]
  intro h1
  rw [if_pos h1] at h
  omega
theorem drop_some {ls : List (List Fil)} {m i : Nat} {num : Int} (hm : m < 5) (h : plcI (lat ls m) num = (i : Int)) : i < (lat ls m).length ∧ dropLs ls (m : Int) num = some (ls.set m ((lat ls m).take i ++ (lat ls m).drop (i + 1))) := by
  unfold plcI at h
  split at h
  · rename_i h1
    have h2 : (lat ls m).findIdx (numIs num) = i := by omega
    refine ⟨by omega, ?_⟩
    unfold dropLs
    rw [if_pos ⟨by omega, by omega⟩, Int.toNat_natCast, if_pos h1, h2, List.eraseIdx_eq_take_drop_succ]
  · omega
def RApplyPost (r : Ver × Int) (w : World) (x : Ending) (w' : World) : Prop :=
  ∃ lv, x = .returned (.tuple #[.agg (verCells r.1 lv).toArray, .int .i64 r.2]) ∧ Rw (rowK filK) Any w' lv r.1.levels ∧ Below w.heap.size w w'

set_option maxRecDepth 100000 in
set_option maxHeartbeats 1000000 in
theorem rapply_any (F G : Nat → Prop) (v : Ver) (e : Edi) (lv dv av : Value) (w : World) (h : Rw (rowK filK) F w lv v.levels) (hw : v.wf) (hfew : cntTo v.levels v.levels.length ≤ 100) (he : EdiAt G w e dv av) (hd : e.drops.length ≤ 100) (ha : e.adds.length ≤ 100) (hk : ∀ a ∈ e.adds, a.2.least.length ≤ 100000000 ∧ a.2.most.length ≤ 100000000) :
    Calls Try.prog 38 #[.agg (verCells v lv).toArray, .agg (ediCells e dv av).toArray] w (RApplyPost (applyW v e) w) := by
  have HCK := Lib.hid (fun w' (hb : Below w.heap.size w w') => rcheck_any F v lv w' (h.below hb) hw (by omega))
  have HCP := Lib.hid (fun (hc : chkW v = 0) w' (hb : Below w.heap.size w w') => rcopied_any F v lv w' (h.below hb) hc)
  have HE : Hid (EdiAt (fun k => k < w.heap.size) w e dv av) := he.mono fun k hk _ => hk
  have HKY := Lib.hid hk
  have HWF := Lib.hid hw
  have HFEW := Lib.hid hfew
  obtain ⟨xa, ca, rfl⟩ := h.isSlice
  obtain ⟨da, dc, rfl⟩ := he.drops.isSlice
  obtain ⟨aa, ac, rfl⟩ := he.adds.isSlice
  clear h he hk hw hfew
  obtain ⟨m5, hm⟩ : ∃ m, v.levels.length = m := ⟨_, rfl⟩
  have HM := Lib.hid hm
  rw [hm] at HCK HCP HFEW ⊢
  obtain ⟨nd, hnd⟩ : ∃ n, e.drops.length = n := ⟨_, rfl⟩
  have HND := Lib.hid hnd
  obtain ⟨na, hna⟩ : ∃ n, e.adds.length = n := ⟨_, rfl⟩
  have HNA := Lib.hid hna
  rw [hnd, hna] at HE ⊢
  rw [hnd] at hd
  rw [hna] at ha
  clear hm hnd hna
  unfold verCells at HCK HCP ⊢
  unfold ediCells
  go_enter Try.func38, Try.ntmps38
  go_upto_region 1 with fail
  refine wp_gen fun w1 hw1 => ?_
  have HX1 : Hid (Blk w1 w.heap.size (verCells v (.slice xa m5 ca)).toArray 25) := by rw [hw1]; exact ((Blk.at_new rfl rfl).alloc _).alloc _
  have HD1 : Hid (Blk w1 (w.heap.size + 1) (ediCells e (.slice da nd dc) (.slice aa na ac)).toArray 57) := by rw [hw1]; exact heap_three_1 _ _ _ _
  have HR1 : Hid (Blk w1 (w.heap.size + 1 + 1) zero4 25) := by rw [hw1]; exact heap_three_2 _ _ _ _
  have HW1 : Hid (Below w.heap.size w w1) := by rw [hw1]; exact below_three _ _ _ _
  clear hw1
  obtain ⟨b1, hb1⟩ : ∃ b, w.heap.size = b := ⟨_, rfl⟩
  obtain ⟨b2, hb2⟩ : ∃ b, w.heap.size + 1 = b := ⟨_, rfl⟩
  obtain ⟨rb, hrb⟩ : ∃ b, w.heap.size + 1 + 1 = b := ⟨_, rfl⟩
  have HNE : Hid (rb ≠ b2 ∧ w.heap.size ≤ rb) := ⟨by omega, by omega⟩
  rw [hrb] at HR1 ⊢
  rw [hb2] at HD1 ⊢
  rw [hb1] at HX1 ⊢
  clear hb1 hb2 hrb
  have x0 : w1.cell? ⟨b1, 0, none⟩ = some (.slice xa m5 ca) := HX1.out.cell rfl
  have x1 : w1.cell? ⟨b1, 1, none⟩ = some (.int .u64 v.next) := HX1.out.cell rfl
  have x2 : w1.cell? ⟨b1, 2, none⟩ = some (.int .u64 v.seq) := HX1.out.cell rfl
  have x3 : w1.cell? ⟨b1, 3, none⟩ = some (.int .u64 v.log) := HX1.out.cell rfl
  go_wp2_with fail
  clear x0 x1 x2 x3
  refine Calls.mono (HCK.out _ HW1.out) ?_
  rintro _ w2 ⟨rfl, hb⟩
  have HX2 := Lib.hid (HX1.out.below hb HX1.out.lt)
  have HD2 := Lib.hid (HD1.out.below hb HD1.out.lt)
  have HR2 := Lib.hid (HR1.out.below hb HR1.out.lt)
  have HW2 : Hid (Below w.heap.size w w2) := HW1.out.trans (hb.mono HW1.out.size)
  clear hb HX1 HD1 HR1 HW1 HCK
  obtain ⟨ck, hck⟩ : ∃ c, chkW v = c := ⟨_, rfl⟩
  have HC := Lib.hid hck
  rw [hck]
  clear hck
  by_cases hc0 : ck = 0
  case neg =>
    have g0 : (ck == 0) = false := by simpa using hc0
    have g1 : (ck != 0) = true := by simpa using hc0
    have HF : Hid (applyW v e = (zeroV, ck)) := by show _ = _; rw [applyW_chk (by rw [HC.out]; exact hc0), HC.out]
    clear hc0
    obtain ⟨z0, z1, z2, z3, f0, f1, f2, f3⟩ := zero4_cells HR2.out
    go_wp2_with fail
    refine bodyPost_ret (results_cell_tmp1 (p := 4) (t := 5) rfl _ _ rb 25 zero4 _ rfl (blk_zero4 HR2.out) Try.underlying25 rfl (by kernel_rfl)) rfl ?_
    rw [HF.out]
    exact ⟨.slice none 0 0, rfl, Rw.nil _ _ _, below_set4 HW2.out HNE.out.2⟩
  subst hc0
  have h5 : v.levels.length = 5 := (good_small HC.out).1
  have hm5 : m5 = 5 := by rw [← HM.out]; exact h5
  subst hm5
  have x0 : w2.cell? ⟨b1, 0, none⟩ = some (.slice xa 5 ca) := HX2.out.cell rfl
  have x1 : w2.cell? ⟨b1, 1, none⟩ = some (.int .u64 v.next) := HX2.out.cell rfl
  have x2 : w2.cell? ⟨b1, 2, none⟩ = some (.int .u64 v.seq) := HX2.out.cell rfl
  have x3 : w2.cell? ⟨b1, 3, none⟩ = some (.int .u64 v.log) := HX2.out.cell rfl
  go_wp2_with fail
  clear x0 x1 x2 x3
  refine Calls.mono (HCP.out HC.out _ HW2.out) ?_
  rintro _ w3 ⟨r, B, rfl, hB, hro, hb⟩
  obtain ⟨g, cap, rfl, hBg, hcap, hcm, hlv⟩ := LvAt.of hro h5
  have HLV := Lib.hid hlv
  have HBG : Hid (w2.heap.size ≤ B ∧ B ≤ g ∧ 5 ≤ cap ∧ cap ≤ maxLen) := ⟨hB, hBg, hcap, hcm⟩
  have HD3 := Lib.hid (HD2.out.below hb HD2.out.lt)
  have HR3 := Lib.hid (HR2.out.below hb HR2.out.lt)
  have HLT : Hid (b2 < w2.heap.size ∧ rb < w2.heap.size) := ⟨HD2.out.lt, HR2.out.lt⟩
  have HW3 : Hid (Below w.heap.size w w3) := HW2.out.trans (hb.mono HW2.out.size)
  have HWS : Hid (w.heap.size ≤ w2.heap.size) := HW2.out.size
  clear hb HX2 HD2 HR2 HW2 HCP hlv hB hBg hcap hcm hro h5
  unfold verCells
  go_upto_region 5 with fail
  refine wp_gen fun w4 hw4 => ?_
  have HCX : Hid (RaCtx w b2 rb w3.heap.size g cap v e (.slice da nd dc) (.slice aa na ac) v.levels w4) := by
    have hb : Below w3.heap.size w3 w4 := by rw [hw4]; exact (Below.refl _ _).alloc (Nat.le_refl _) _
    have hg := HLV.out.lt
    have g1 := HBG.out
    have g2 := HLT.out
    have g3 := HNE.out
    have g4 := HWS.out
    have g5 := HD3.out.lt
    have g6 := HR3.out.lt
    have g7 := HW3.out.size
    have hlv2 : LvAt (fun k => k ≠ g ∧ k ≠ w3.heap.size ∧ k ≠ rb) g v.levels w4 := by
      have h1 := HLV.out
      obtain ⟨us, k1, k2, k3⟩ := h1.blk
      have h2 : LvAt (fun k => k ≠ g ∧ k ≠ w3.heap.size ∧ k ≠ rb) g v.levels w3 := ⟨⟨us, k1, k2, fun i hi => by
        obtain ⟨a, c, e, hr⟩ := k3 i hi
        exact ⟨a, c, e, hr.mono fun k hk hx => ⟨hx.2, by omega, by have := hx.1; omega⟩⟩⟩, h1.five⟩
      exact h2.below hb
    refine ⟨HD3.out.below hb g5, HR3.out.below hb g6, by rw [hw4]; exact Blk.at_new rfl rfl, hlv2, (HE.out.below (HW3.out.trans (hb.mono g7))), HW3.out.trans (hb.mono g7), ⟨by omega, by omega, by omega, by omega, by omega, g3.1⟩, ⟨by omega, by omega, by omega⟩, g1.2.2⟩
  clear hw4 HLV HBG HD3 HR3 HLT HW3 HWS HE
  generalize w3.heap.size = ob at *
  go_wp2_with fail
  go_loopw [8] (fun iv wr => ∃ (k : Nat) (ls : List (List Fil)), iv = .int .i64 (k : Int) ∧ k ≤ nd ∧ Hid (dropsLs v.levels (e.drops.take k) = some ls) ∧ Hid (Small ls 100) ∧ Hid (RaCtx w b2 rb ob g cap v e (.slice da nd dc) (.slice aa na ac) ls wr)) (fun iv _ => nd - (intOf iv).toNat)
  case atStart => exact ⟨0, v.levels, rfl, by omega, dropsLs_start _ _, small_of HC.out HFEW.out, HCX.out⟩
  case round =>
    obtain ⟨k, ls, rfl, hk, HDL, HSM, HX⟩ := hrel
    clear HCX
    by_cases hkn : k < nd
    · have t1 : (k : Int) < (nd : Int) := by omega
      have t2 : 0 ≤ (k : Int) := by omega
      have hkl : k < e.drops.length := by rw [HND.out]; exact hkn
      obtain ⟨bd, od, capd, ed, _, _, hcd⟩ := drops_at HX.out.eat.drops (by omega)
      obtain ⟨hd0, hd1, hc0, hc1⟩ := hcd k hkl
      rw [HND.out] at ed
      injection ed with e1 e2 e3
      subst e1 e3
      have HMO := Lib.hid (dropsLs_more hkl HDL.out)
      have HNO : Hid (dropsLs v.levels (e.drops.take (k + 1)) = none → dropsLs v.levels e.drops = none) := fun h => dropsLs_none h
      obtain ⟨lev, hlev⟩ : ∃ x, (dat e.drops k).1 = x := ⟨_, rfl⟩
      obtain ⟨num, hnum⟩ : ∃ x, (dat e.drops k).2 = x := ⟨_, rfl⟩
      rw [hlev, hnum] at HMO
      rw [hlev] at hc0 hd0
      rw [hnum] at hc1
      clear e2 hcd hlev hnum hkl hd1
      have y0 : wr.cell? ⟨b2, 0, none⟩ = some (.slice (some ⟨bd, od, none⟩) nd dc) := HX.out.ed.cell rfl
      go_upto_region 9 with fail
      clear y0 hc0 hc1
      refine wp_gen fun w5 hw5 => ?_
      have hb5 : Below wr.heap.size wr w5 := by rw [hw5]; exact (Below.refl _ _).alloc (Nat.le_refl _) _
      have HDB : Hid (Blk w5 wr.heap.size #[.int .i64 lev, .int .u64 num] 100) := by rw [hw5]; exact Blk.at_new rfl rfl
      have HX5 := Lib.hid (HX.out.below hb5)
      have HDO : Hid (wr.heap.size ≠ g ∧ wr.heap.size ≠ ob ∧ wr.heap.size ≠ rb) := ⟨fun e => by have := HX.out.lv.lt; omega, fun e => by have := HX.out.out.lt; omega, fun e => by have := HX.out.res.lt; omega⟩
      clear hw5 hb5 HX
      generalize wr.heap.size = db at *
      have c0 : w5.cell? ⟨db, 0, none⟩ = some (.int .i64 lev) := HDB.out.cell rfl
      by_cases hl0 : 0 ≤ lev ∧ lev < 5
      case neg =>
        have HF : Hid (applyW v e = (zeroV, 6)) := applyW_none HC.out (HNO.out (by rw [HMO.out]; exact drop_bad hl0))
        obtain ⟨z0, z1, z2, z3, f0, f1, f2, f3⟩ := zero4_cells HX5.out.res
        by_cases hl1 : lev < 0
        · clear hl0 hd0
          go_wp2_with fail
          refine bodyPost_ret (results_cell_tmp1 (p := 4) (t := 5) rfl _ _ rb 25 zero4 _ rfl (blk_zero4 HX5.out.res) Try.underlying25 rfl (by kernel_rfl)) rfl ?_
          exact HX5.out.bad HF.out
        · have hl2 : 5 ≤ lev := by omega
          clear hl0 hd0
          go_wp2_with fail
          refine bodyPost_ret (results_cell_tmp1 (p := 4) (t := 5) rfl _ _ rb 25 zero4 _ rfl (blk_zero4 HX5.out.res) Try.underlying25 rfl (by kernel_rfl)) rfl ?_
          exact HX5.out.bad HF.out
      obtain ⟨m, rfl⟩ : ∃ m : Nat, lev = (m : Int) := ⟨lev.toNat, by omega⟩
      have t3 : (m : Int) < 5 := by omega
      have t4 : 0 ≤ (m : Int) := by omega
      have t5 : ¬ (m : Int) < 0 := by omega
      have t6 : ¬ 5 ≤ (m : Int) := by omega
      clear hl0 hd0
      go_upto_region 11 with fail
      clear c0
      obtain ⟨la, lc, hgc, hgr⟩ := HX5.out.lv.get (i := m) (by omega)
      have HNS := Lib.hid (drop_none (ls := ls) (m := m) (num := num) (by omega))
      have HSO := Lib.hid (fun i => drop_some (ls := ls) (m := m) (i := i) (num := num) (by omega))
      have HLB : Hid ((lat ls m).length ≤ 100) := HSM.out.len m (by omega)
      obtain ⟨l, hl⟩ : ∃ l, lat ls m = l := ⟨_, rfl⟩
      rw [hl] at hgc hgr HNS HSO HLB
      obtain ⟨n, hn⟩ : ∃ n, l.length = n := ⟨_, rfl⟩
      have HN := Lib.hid hn
      rw [hn] at hgc hgr HLB
      have HGR := Lib.hid hgr
      clear hgr hl hn
      have HKP : Hid (∀ W, Below w5.heap.size w5 W → (W.cell? ⟨ob, 0, none⟩ = some (.slice (some ⟨g, 0, none⟩) 5 cap) ∧ W.cell? ⟨g, m, none⟩ = some (.slice la n lc) ∧ W.cell? ⟨db, 0, none⟩ = some (.int .i64 (m : Int)) ∧ W.cell? ⟨db, 1, none⟩ = some (.int .u64 num))) := fun W hb => ⟨(HX5.out.out.below hb HX5.out.out.lt).cell rfl, (hb.cell (p := ⟨g, m, none⟩) HX5.out.lv.lt).trans hgc, (HDB.out.below hb HDB.out.lt).cell rfl, (HDB.out.below hb HDB.out.lt).cell rfl⟩
      have D0 : Hid (Below w5.heap.size w5 w5.drew) := below_drew (Below.refl _ _)
      clear hgc
      refine wp_region_held_drew (S := fun W => (W.cell? ⟨ob, 0, none⟩ = some (.slice (some ⟨g, 0, none⟩) 5 cap) ∧ W.cell? ⟨g, m, none⟩ = some (.slice la n lc) ∧ W.cell? ⟨db, 0, none⟩ = some (.int .i64 (m : Int)) ∧ W.cell? ⟨db, 1, none⟩ = some (.int .u64 num))) (by kernel_rfl) (HKP.out _ D0.out) (fun hHeld => ?_)
      refine wpAnyH_take (i := 0) (oi := ?oA_1_0) (v := ?vA_1_0) ?eA_1_0 (by kernel_rfl) (by kernel_rfl) (by kernel_rfl) ?qA_1_0 (Or.inl ⟨?wA_1_0, ?yA_1_0⟩) (by assumption) ?rA_1_0
      case eA_1_0 => simp only [List.getElem?_toArray, List.getElem?_cons_zero]; rfl
      case wA_1_0 => rfl
      case qA_1_0 => exact fun _ _ _ h => h
      case yA_1_0 => (intro w hSw; (try dsimp only at hSw); go_simp; try with_reducible rfl)
      try simp only [Act.put, List.setIfInBounds_toArray, List.set_cons_zero, List.set_cons_succ]
      refine wpAnyH_take (i := 1) (oi := ?oA_2_1) (v := ?vA_2_1) ?eA_2_1 (by kernel_rfl) (by kernel_rfl) (by kernel_rfl) ?qA_2_1 (Or.inl ⟨?wA_2_1, ?yA_2_1⟩) (by assumption) ?rA_2_1
      case eA_2_1 => simp only [List.getElem?_toArray, List.getElem?_cons_succ, List.getElem?_cons_zero]; rfl
      case wA_2_1 => rfl
      case qA_2_1 => exact fun _ _ _ h => h
      case yA_2_1 => (intro w hSw; (try dsimp only at hSw); go_simp; try with_reducible rfl)
      try simp only [Act.put, List.setIfInBounds_toArray, List.set_cons_zero, List.set_cons_succ]
      refine wpAnyH_take (i := 2) (oi := ?oA_3_2) (v := ?vA_3_2) ?eA_3_2 (by kernel_rfl) (by kernel_rfl) (by kernel_rfl) ?qA_3_2 (Or.inl ⟨?wA_3_2, ?yA_3_2⟩) (by assumption) ?rA_3_2
      case eA_3_2 => simp only [List.getElem?_toArray, List.getElem?_cons_succ, List.getElem?_cons_zero]; rfl
      case wA_3_2 => rfl
      case qA_3_2 => exact fun _ _ _ h => h
      case yA_3_2 => (intro w hSw; (try dsimp only at hSw); go_simp; try with_reducible rfl)
      try simp only [Act.put, List.setIfInBounds_toArray, List.set_cons_zero, List.set_cons_succ]
      refine wpAnyH_take (i := 3) (oi := ?oA_4_3) (v := ?vA_4_3) ?eA_4_3 (by kernel_rfl) (by kernel_rfl) (by kernel_rfl) ?qA_4_3 (Or.inl ⟨?wA_4_3, ?yA_4_3⟩) (by assumption) ?rA_4_3
      case eA_4_3 => simp only [List.getElem?_toArray, List.getElem?_cons_succ, List.getElem?_cons_zero]; rfl
      case wA_4_3 => rfl
      case qA_4_3 => exact fun _ _ _ h => h
      case yA_4_3 => (intro w hSw; (try dsimp only at hSw); go_simp; try with_reducible rfl)
      try simp only [Act.put, List.setIfInBounds_toArray, List.set_cons_zero, List.set_cons_succ]
      refine wpAnyH_take (i := 4) (oi := ?oA_5_4) (v := ?vA_5_4) ?eA_5_4 (by kernel_rfl) (by kernel_rfl) (by kernel_rfl) ?qA_5_4 (Or.inl ⟨?wA_5_4, ?yA_5_4⟩) (by assumption) ?rA_5_4
      case eA_5_4 => simp only [List.getElem?_toArray, List.getElem?_cons_succ, List.getElem?_cons_zero]; rfl
      case wA_5_4 => rfl
      case qA_5_4 => exact fun _ _ _ h => h
      case yA_5_4 => (intro w hSw; (try dsimp only at hSw); go_simp; try with_reducible rfl)
      try simp only [Act.put, List.setIfInBounds_toArray, List.set_cons_zero, List.set_cons_succ]
      refine wpAnyH_take (i := 5) (oi := ?oA_6_5) (v := ?vA_6_5) ?eA_6_5 (by kernel_rfl) (by kernel_rfl) (by kernel_rfl) ?qA_6_5 (Or.inl ⟨?wA_6_5, ?yA_6_5⟩) (by assumption) ?rA_6_5
      case eA_6_5 => simp only [List.getElem?_toArray, List.getElem?_cons_succ, List.getElem?_cons_zero]; rfl
      case wA_6_5 => rfl
      case qA_6_5 => exact fun _ _ _ h => h
      case yA_6_5 => (intro w hSw; (try dsimp only at hSw); go_simp; try with_reducible rfl)
      try simp only [Act.put, List.setIfInBounds_toArray, List.set_cons_zero, List.set_cons_succ]
      refine wpAnyH_take (i := 6) (oi := ?oA_7_6) (v := ?vA_7_6) ?eA_7_6 (by kernel_rfl) (by kernel_rfl) (by kernel_rfl) ?qA_7_6 (Or.inl ⟨?wA_7_6, ?yA_7_6⟩) (by assumption) ?rA_7_6
      case eA_7_6 => simp only [List.getElem?_toArray, List.getElem?_cons_succ, List.getElem?_cons_zero]; rfl
      case wA_7_6 => rfl
      case qA_7_6 => exact fun _ _ _ h => h
      case yA_7_6 => (intro w hSw; (try dsimp only at hSw); go_simp; try with_reducible rfl)
      try simp only [Act.put, List.setIfInBounds_toArray, List.set_cons_zero, List.set_cons_succ]
      refine wpAnyH_take (i := 7) (oi := ?oA_8_7) (v := ?vA_8_7) ?eA_8_7 (by kernel_rfl) (by kernel_rfl) (by kernel_rfl) ?qA_8_7 (Or.inl ⟨?wA_8_7, ?yA_8_7⟩) (by assumption) ?rA_8_7
      case eA_8_7 => simp only [List.getElem?_toArray, List.getElem?_cons_succ, List.getElem?_cons_zero]; rfl
      case wA_8_7 => rfl
      case qA_8_7 => exact fun _ _ _ h => h
      case yA_8_7 => (intro w hSw; (try dsimp only at hSw); go_simp; try with_reducible rfl)
      try simp only [Act.put, List.setIfInBounds_toArray, List.set_cons_zero, List.set_cons_succ]
      have hOld := hHeld
      clear hHeld
      refine wpAnyH_ready (rs := [8]) (by kernel_rfl) (by simp) ?_
      refine AllReadyH.cons (o := ?oA_9_8) ?eA_9_8 (fun K hK => ?_) AllReadyH.nil
      case eA_9_8 => simp only [List.getElem?_toArray, List.getElem?_cons_succ, List.getElem?_cons_zero]; rfl
      go_simp
      (go_at_call 79; refine Calls.mono (rplace_any _ _ l num _ (HGR.out.below D0.out) (by rw [HN.out]; have := HLB.out; omega)) ?_; rintro _ x0 ⟨rfl, hb0⟩; have D1 : Hid (Below w5.heap.size w5 x0) := D0.out.trans (hb0.mono D0.out.size); clear hb0)
      try go_wp2_with fail
      refine hK.out _ _ (HKP.out _ D1.out) (fun hHeld => ?_)
      clear hK hOld
      try simp only [Act.put, List.setIfInBounds_toArray, List.set_cons_zero, List.set_cons_succ]
      refine wpAnyH_take (i := 9) (oi := ?oA_10_9) (v := ?vA_10_9) ?eA_10_9 (by kernel_rfl) (by kernel_rfl) (by kernel_rfl) ?qA_10_9 (Or.inl ⟨?wA_10_9, ?yA_10_9⟩) (by assumption) ?rA_10_9
      case eA_10_9 => simp only [List.getElem?_toArray, List.getElem?_cons_succ, List.getElem?_cons_zero]; rfl
      case wA_10_9 => rfl
      case qA_10_9 => exact fun _ _ _ h => h
      case yA_10_9 => (intro w hSw; (try dsimp only at hSw); go_simp; try with_reducible rfl)
      try simp only [Act.put, List.setIfInBounds_toArray, List.set_cons_zero, List.set_cons_succ]
      refine wpAnyH_done (by kernel_rfl) ?_ _
      have HX6 := Lib.hid (HX5.out.below D1.out)
      have HDB6 := Lib.hid (HDB.out.below D1.out HDB.out.lt)
      have HGR6 := Lib.hid (HGR.out.below D1.out)
      have HGC6 : Hid (x0.cell? ⟨g, m, none⟩ = some (.slice la n lc)) := (HKP.out _ D1.out).2.1
      clear HX5 HDB HGR HKP D0 D1 hHeld
      obtain ⟨p, hp⟩ : ∃ p, plcI l num = p := ⟨_, rfl⟩
      rw [hp] at HNS HSO ⊢
      clear hp
      by_cases hp0 : p < 0
      · have HF : Hid (applyW v e = (zeroV, 6)) := applyW_none HC.out (HNO.out (by rw [HMO.out]; exact HNS.out hp0))
        obtain ⟨z0, z1, z2, z3, f0, f1, f2, f3⟩ := zero4_cells HX6.out.res
        go_wp2_with fail
        refine bodyPost_ret (results_cell_tmp1 (p := 4) (t := 5) rfl _ _ rb 25 zero4 _ rfl (blk_zero4 HX6.out.res) Try.underlying25 rfl (by kernel_rfl)) rfl ?_
        exact HX6.out.bad HF.out
      obtain ⟨i, rfl⟩ : ∃ i : Nat, p = (i : Int) := ⟨p.toNat, by omega⟩
      obtain ⟨hil, hdr⟩ := HSO.out i rfl
      have HDL2 : Hid (dropsLs v.levels (e.drops.take (k + 1)) = some (ls.set m (l.take i ++ l.drop (i + 1)))) := by show _ = _; rw [HMO.out, hdr]
      have HSM2 : Hid (Small (ls.set m (l.take i ++ l.drop (i + 1))) 100) := HSM.out.drop hdr
      rw [HN.out] at hil
      have t7 : 0 ≤ (i : Int) := by omega
      have t8 : (i : Int) ≤ (n : Int) := by omega
      have t9 : (i : Int) + 1 ≤ (n : Int) := by omega
      have hln : n ≤ 100 := HLB.out
      obtain ⟨j, hj⟩ : ∃ j, i + 1 = j := ⟨_, rfl⟩
      have hjb : j ≤ 1000000 := by omega
      rw [hj] at HDL2 HSM2
      obtain ⟨s1, hs1, hw1⟩ := HGR6.out.slice_h under_filsP size_filsP i (by rw [HN.out]; omega)
      obtain ⟨s2, hs2, hw2⟩ := HGR6.out.slice_l under_filsP size_filsP j (by rw [HN.out]; omega)
      have tc : 0 ≤ (j : Int) := by omega
      have td : (j : Int) ≤ (n : Int) := by omega
      obtain ⟨p1, q1, hv1⟩ := hw1.isSlice
      obtain ⟨p2, q2, hv2⟩ := hw2.isSlice
      obtain ⟨n1, hn1⟩ : ∃ x, (l.take i).length = x := ⟨_, rfl⟩
      obtain ⟨n2, hn2⟩ : ∃ x, (l.drop j).length = x := ⟨_, rfl⟩
      have HLM1 : Hid (([] : List Fil).length + (l.take i).length ≤ 1000000) := by show _ ≤ _; rw [List.length_nil, List.length_take]; omega
      have HLM2 : Hid ((l.take i).length + (l.drop j).length ≤ 1000000) := by show _ ≤ _; rw [List.length_take, List.length_drop, HN.out]; omega
      obtain ⟨L, hL⟩ : ∃ x, l.take i ++ l.drop j = x := ⟨_, rfl⟩
      rw [hn1] at hv1
      rw [hn2] at hv2
      subst hv1 hv2
      obtain ⟨cs1, hsl1, hel1⟩ := hw1
      obtain ⟨cs2, hsl2, hel2⟩ := hw2
      have HSL1 := Lib.hid hsl1
      have HEL1 := Lib.hid hel1
      have HSL2 := Lib.hid hsl2
      have HEL2 := Lib.hid hel2
      have HN1 := Lib.hid hn1
      have HN2 := Lib.hid hn2
      have HLL := Lib.hid hL
      rw [hL] at HDL2 HSM2
      clear hsl1 hel1 hsl2 hel2 hn1 hn2 hL hdr HSO HNS HMO HNO hil hp0 t9
      generalize x0 = w6 at *
      have HKP : Hid (∀ W, Below w6.heap.size w6 W → (W.cell? ⟨ob, 0, none⟩ = some (.slice (some ⟨g, 0, none⟩) 5 cap) ∧ W.cell? ⟨g, m, none⟩ = some (.slice la n lc) ∧ W.cell? ⟨db, 0, none⟩ = some (.int .i64 (m : Int)) ∧ W.cell? ⟨db, 1, none⟩ = some (.int .u64 num))) := fun W hb => ⟨(HX6.out.out.below hb HX6.out.out.lt).cell rfl, (hb.cell (p := ⟨g, m, none⟩) HX6.out.lv.lt).trans HGC6.out, (HDB6.out.below hb HDB6.out.lt).cell rfl, (HDB6.out.below hb HDB6.out.lt).cell rfl⟩
      have D0 : Below w6.heap.size w6 w6.drew := below_drew (Below.refl _ _)
      have hHeld := HKP.out _ D0
      have ta : True → RowKit.wrap64 ((i : Int) + 1) = (j : Int) := fun _ => wrap64_next hj hjb
      have tb : True → IntKind.i64.wrap ((i : Int) + 1) = (j : Int) := fun _ => wrapi_next hj hjb
      clear hj
      go_upto_region 14 with fail
      refine wp_region_last (S := fun W => (W.cell? ⟨ob, 0, none⟩ = some (.slice (some ⟨g, 0, none⟩) 5 cap) ∧ W.cell? ⟨g, m, none⟩ = some (.slice la n lc) ∧ W.cell? ⟨db, 0, none⟩ = some (.int .i64 (m : Int)) ∧ W.cell? ⟨db, 1, none⟩ = some (.int .u64 num))) (n := 25) (l := ?lT) (o := ?oT) rfl ?hlT ?hoT ?hnT ?hbT ?hgT ?hT
      case hlT => simp only [List.dropLast]; rfl
      case hoT => rfl
      case hnT => rfl
      case hbT => kernel_rfl
      case hgT => rfl
      skip
      refine wpAnyH_take (i := 0) (oi := ?oB_11_0) (v := ?vB_11_0) ?eB_11_0 (by kernel_rfl) (by kernel_rfl) (by kernel_rfl) ?qB_11_0 (Or.inl ⟨?wB_11_0, ?yB_11_0⟩) (by assumption) ?rB_11_0
      case eB_11_0 => simp only [List.getElem?_toArray, List.getElem?_cons_zero]; rfl
      case wB_11_0 => rfl
      case qB_11_0 => exact fun _ _ _ h => h
      case yB_11_0 => (intro w hSw; (try dsimp only at hSw); go_simp; try with_reducible rfl)
      try simp only [Act.put, List.setIfInBounds_toArray, List.set_cons_zero, List.set_cons_succ]
      refine wpAnyH_take (i := 1) (oi := ?oB_12_1) (v := ?vB_12_1) ?eB_12_1 (by kernel_rfl) (by kernel_rfl) (by kernel_rfl) ?qB_12_1 (Or.inl ⟨?wB_12_1, ?yB_12_1⟩) (by assumption) ?rB_12_1
      case eB_12_1 => simp only [List.getElem?_toArray, List.getElem?_cons_succ, List.getElem?_cons_zero]; rfl
      case wB_12_1 => rfl
      case qB_12_1 => exact fun _ _ _ h => h
      case yB_12_1 => (intro w hSw; (try dsimp only at hSw); go_simp; try with_reducible rfl)
      try simp only [Act.put, List.setIfInBounds_toArray, List.set_cons_zero, List.set_cons_succ]
      refine wpAnyH_take (i := 2) (oi := ?oB_13_2) (v := ?vB_13_2) ?eB_13_2 (by kernel_rfl) (by kernel_rfl) (by kernel_rfl) ?qB_13_2 (Or.inl ⟨?wB_13_2, ?yB_13_2⟩) (by assumption) ?rB_13_2
      case eB_13_2 => simp only [List.getElem?_toArray, List.getElem?_cons_succ, List.getElem?_cons_zero]; rfl
      case wB_13_2 => rfl
      case qB_13_2 => exact fun _ _ _ h => h
      case yB_13_2 => (intro w hSw; (try dsimp only at hSw); go_simp; try with_reducible rfl)
      try simp only [Act.put, List.setIfInBounds_toArray, List.set_cons_zero, List.set_cons_succ]
      refine wpAnyH_take (i := 3) (oi := ?oB_14_3) (v := ?vB_14_3) ?eB_14_3 (by kernel_rfl) (by kernel_rfl) (by kernel_rfl) ?qB_14_3 (Or.inl ⟨?wB_14_3, ?yB_14_3⟩) (by assumption) ?rB_14_3
      case eB_14_3 => simp only [List.getElem?_toArray, List.getElem?_cons_succ, List.getElem?_cons_zero]; rfl
      case wB_14_3 => rfl
      case qB_14_3 => exact fun _ _ _ h => h
      case yB_14_3 => (intro w hSw; (try dsimp only at hSw); go_simp; try with_reducible rfl)
      try simp only [Act.put, List.setIfInBounds_toArray, List.set_cons_zero, List.set_cons_succ]
      refine wpAnyH_take (i := 5) (oi := ?oB_15_5) (v := ?vB_15_5) ?eB_15_5 (by kernel_rfl) (by kernel_rfl) (by kernel_rfl) ?qB_15_5 (Or.inl ⟨?wB_15_5, ?yB_15_5⟩) (by assumption) ?rB_15_5
      case eB_15_5 => simp only [List.getElem?_toArray, List.getElem?_cons_succ, List.getElem?_cons_zero]; rfl
      case wB_15_5 => rfl
      case qB_15_5 => exact fun _ _ _ h => h
      case yB_15_5 => (intro w hSw; (try dsimp only at hSw); go_simp; try with_reducible rfl)
      try simp only [Act.put, List.setIfInBounds_toArray, List.set_cons_zero, List.set_cons_succ]
      refine wpAnyH_take (i := 6) (oi := ?oB_16_6) (v := ?vB_16_6) ?eB_16_6 (by kernel_rfl) (by kernel_rfl) (by kernel_rfl) ?qB_16_6 (Or.inl ⟨?wB_16_6, ?yB_16_6⟩) (by assumption) ?rB_16_6
      case eB_16_6 => simp only [List.getElem?_toArray, List.getElem?_cons_succ, List.getElem?_cons_zero]; rfl
      case wB_16_6 => rfl
      case qB_16_6 => exact fun _ _ _ h => h
      case yB_16_6 => (intro w hSw; (try dsimp only at hSw); go_simp; try with_reducible rfl)
      try simp only [Act.put, List.setIfInBounds_toArray, List.set_cons_zero, List.set_cons_succ]
      refine wpAnyH_take (i := 7) (oi := ?oB_17_7) (v := ?vB_17_7) ?eB_17_7 (by kernel_rfl) (by kernel_rfl) (by kernel_rfl) ?qB_17_7 (Or.inl ⟨?wB_17_7, ?yB_17_7⟩) (by assumption) ?rB_17_7
      case eB_17_7 => simp only [List.getElem?_toArray, List.getElem?_cons_succ, List.getElem?_cons_zero]; rfl
      case wB_17_7 => rfl
      case qB_17_7 => exact fun _ _ _ h => h
      case yB_17_7 => (intro w hSw; (try dsimp only at hSw); go_simp; try with_reducible rfl)
      try simp only [Act.put, List.setIfInBounds_toArray, List.set_cons_zero, List.set_cons_succ]
      refine wpAnyH_take (i := 8) (oi := ?oB_18_8) (v := ?vB_18_8) ?eB_18_8 (by kernel_rfl) (by kernel_rfl) (by kernel_rfl) ?qB_18_8 (Or.inl ⟨?wB_18_8, ?yB_18_8⟩) (by assumption) ?rB_18_8
      case eB_18_8 => simp only [List.getElem?_toArray, List.getElem?_cons_succ, List.getElem?_cons_zero]; rfl
      case wB_18_8 => rfl
      case qB_18_8 => exact fun _ _ _ h => h
      case yB_18_8 => (intro w hSw; (try dsimp only at hSw); go_simp; try with_reducible rfl)
      try simp only [Act.put, List.setIfInBounds_toArray, List.set_cons_zero, List.set_cons_succ]
      refine wpAnyH_take (i := 9) (oi := ?oB_19_9) (v := ?vB_19_9) ?eB_19_9 (by kernel_rfl) (by kernel_rfl) (by kernel_rfl) ?qB_19_9 (Or.inl ⟨?wB_19_9, ?yB_19_9⟩) (by assumption) ?rB_19_9
      case eB_19_9 => simp only [List.getElem?_toArray, List.getElem?_cons_succ, List.getElem?_cons_zero]; rfl
      case wB_19_9 => rfl
      case qB_19_9 => exact fun _ _ _ h => h
      case yB_19_9 => (intro w hSw; (try dsimp only at hSw); go_simp; try with_reducible rfl)
      try simp only [Act.put, List.setIfInBounds_toArray, List.set_cons_zero, List.set_cons_succ]
      refine wpAnyH_take (i := 10) (oi := ?oB_20_10) (v := ?vB_20_10) ?eB_20_10 (by kernel_rfl) (by kernel_rfl) (by kernel_rfl) ?qB_20_10 (Or.inl ⟨?wB_20_10, ?yB_20_10⟩) (by assumption) ?rB_20_10
      case eB_20_10 => simp only [List.getElem?_toArray, List.getElem?_cons_succ, List.getElem?_cons_zero]; rfl
      case wB_20_10 => rfl
      case qB_20_10 => exact fun _ _ _ h => h
      case yB_20_10 => (intro w hSw; (try dsimp only at hSw); go_simp; try with_reducible rfl)
      try simp only [Act.put, List.setIfInBounds_toArray, List.set_cons_zero, List.set_cons_succ]
      refine wpAnyH_take (i := 11) (oi := ?oB_21_11) (v := ?vB_21_11) ?eB_21_11 (by kernel_rfl) (by kernel_rfl) (by kernel_rfl) ?qB_21_11 (Or.inl ⟨?wB_21_11, ?yB_21_11⟩) (by assumption) ?rB_21_11
      case eB_21_11 => simp only [List.getElem?_toArray, List.getElem?_cons_succ, List.getElem?_cons_zero]; rfl
      case wB_21_11 => rfl
      case qB_21_11 => exact fun _ _ _ h => h
      case yB_21_11 => (intro w hSw; (try dsimp only at hSw); go_simp; try with_reducible rfl)
      try simp only [Act.put, List.setIfInBounds_toArray, List.set_cons_zero, List.set_cons_succ]
      refine wpAnyH_take (i := 12) (oi := ?oB_22_12) (v := ?vB_22_12) ?eB_22_12 (by kernel_rfl) (by kernel_rfl) (by kernel_rfl) ?qB_22_12 (Or.inl ⟨?wB_22_12, ?yB_22_12⟩) (by assumption) ?rB_22_12
      case eB_22_12 => simp only [List.getElem?_toArray, List.getElem?_cons_succ, List.getElem?_cons_zero]; rfl
      case wB_22_12 => rfl
      case qB_22_12 => exact fun _ _ _ h => h
      case yB_22_12 => (intro w hSw; (try dsimp only at hSw); go_simp; try with_reducible rfl)
      try simp only [Act.put, List.setIfInBounds_toArray, List.set_cons_zero, List.set_cons_succ]
      refine wpAnyH_take (i := 14) (oi := ?oB_23_14) (v := ?vB_23_14) ?eB_23_14 (by kernel_rfl) (by kernel_rfl) (by kernel_rfl) ?qB_23_14 (Or.inl ⟨?wB_23_14, ?yB_23_14⟩) (by assumption) ?rB_23_14
      case eB_23_14 => simp only [List.getElem?_toArray, List.getElem?_cons_succ, List.getElem?_cons_zero]; rfl
      case wB_23_14 => rfl
      case qB_23_14 => exact fun _ _ _ h => h
      case yB_23_14 => (intro w hSw; (try dsimp only at hSw); go_simp; try with_reducible rfl)
      try simp only [Act.put, List.setIfInBounds_toArray, List.set_cons_zero, List.set_cons_succ]
      refine wpAnyH_take (i := 15) (oi := ?oB_24_15) (v := ?vB_24_15) ?eB_24_15 (by kernel_rfl) (by kernel_rfl) (by kernel_rfl) ?qB_24_15 (Or.inl ⟨?wB_24_15, ?yB_24_15⟩) (by assumption) ?rB_24_15
      case eB_24_15 => simp only [List.getElem?_toArray, List.getElem?_cons_succ, List.getElem?_cons_zero]; rfl
      case wB_24_15 => rfl
      case qB_24_15 => exact fun _ _ _ h => h
      case yB_24_15 => (intro w hSw; (try dsimp only at hSw); go_simp; try with_reducible rfl)
      try simp only [Act.put, List.setIfInBounds_toArray, List.set_cons_zero, List.set_cons_succ]
      refine wpAnyH_take (i := 16) (oi := ?oB_25_16) (v := ?vB_25_16) ?eB_25_16 (by kernel_rfl) (by kernel_rfl) (by kernel_rfl) ?qB_25_16 (Or.inl ⟨?wB_25_16, ?yB_25_16⟩) (by assumption) ?rB_25_16
      case eB_25_16 => simp only [List.getElem?_toArray, List.getElem?_cons_succ, List.getElem?_cons_zero]; rfl
      case wB_25_16 => rfl
      case qB_25_16 => exact fun _ _ _ h => h
      case yB_25_16 => (intro w hSw; (try dsimp only at hSw); go_simp; try with_reducible rfl)
      try simp only [Act.put, List.setIfInBounds_toArray, List.set_cons_zero, List.set_cons_succ]
      refine wpAnyH_take (i := 17) (oi := ?oB_26_17) (v := ?vB_26_17) ?eB_26_17 (by kernel_rfl) (by kernel_rfl) (by kernel_rfl) ?qB_26_17 (Or.inl ⟨?wB_26_17, ?yB_26_17⟩) (by assumption) ?rB_26_17
      case eB_26_17 => simp only [List.getElem?_toArray, List.getElem?_cons_succ, List.getElem?_cons_zero]; rfl
      case wB_26_17 => rfl
      case qB_26_17 => exact fun _ _ _ h => h
      case yB_26_17 => (intro w hSw; (try dsimp only at hSw); go_simp; try with_reducible rfl)
      try simp only [Act.put, List.setIfInBounds_toArray, List.set_cons_zero, List.set_cons_succ]
      refine wpAnyH_take (i := 18) (oi := ?oB_27_18) (v := ?vB_27_18) ?eB_27_18 (by kernel_rfl) (by kernel_rfl) (by kernel_rfl) ?qB_27_18 (Or.inl ⟨?wB_27_18, ?yB_27_18⟩) (by assumption) ?rB_27_18
      case eB_27_18 => simp only [List.getElem?_toArray, List.getElem?_cons_succ, List.getElem?_cons_zero]; rfl
      case wB_27_18 => rfl
      case qB_27_18 => exact fun _ _ _ h => h
      case yB_27_18 => (intro w hSw; (try dsimp only at hSw); go_simp; try with_reducible rfl)
      try simp only [Act.put, List.setIfInBounds_toArray, List.set_cons_zero, List.set_cons_succ]
      refine wpAnyH_take (i := 19) (oi := ?oB_28_19) (v := ?vB_28_19) ?eB_28_19 (by kernel_rfl) (by kernel_rfl) (by kernel_rfl) ?qB_28_19 (Or.inl ⟨?wB_28_19, ?yB_28_19⟩) (by assumption) ?rB_28_19
      case eB_28_19 => simp only [List.getElem?_toArray, List.getElem?_cons_succ, List.getElem?_cons_zero]; rfl
      case wB_28_19 => rfl
      case qB_28_19 => exact fun _ _ _ h => h
      case yB_28_19 => (intro w hSw; (try dsimp only at hSw); go_simp; try with_reducible rfl)
      try simp only [Act.put, List.setIfInBounds_toArray, List.set_cons_zero, List.set_cons_succ]
      refine wpAnyH_take (i := 20) (oi := ?oB_29_20) (v := ?vB_29_20) ?eB_29_20 (by kernel_rfl) (by kernel_rfl) (by kernel_rfl) ?qB_29_20 (Or.inl ⟨?wB_29_20, ?yB_29_20⟩) (by assumption) ?rB_29_20
      case eB_29_20 => simp only [List.getElem?_toArray, List.getElem?_cons_succ, List.getElem?_cons_zero]; rfl
      case wB_29_20 => rfl
      case qB_29_20 => exact fun _ _ _ h => h
      case yB_29_20 => (intro w hSw; (try dsimp only at hSw); go_simp; try with_reducible rfl)
      try simp only [Act.put, List.setIfInBounds_toArray, List.set_cons_zero, List.set_cons_succ]
      refine wpAnyH_take (i := 21) (oi := ?oB_30_21) (v := ?vB_30_21) ?eB_30_21 (by kernel_rfl) (by kernel_rfl) (by kernel_rfl) ?qB_30_21 (Or.inl ⟨?wB_30_21, ?yB_30_21⟩) (by assumption) ?rB_30_21
      case eB_30_21 => simp only [List.getElem?_toArray, List.getElem?_cons_succ, List.getElem?_cons_zero]; rfl
      case wB_30_21 => rfl
      case qB_30_21 => exact fun _ _ _ h => h
      case yB_30_21 => (intro w hSw; (try dsimp only at hSw); go_simp; try with_reducible rfl)
      try simp only [Act.put, List.setIfInBounds_toArray, List.set_cons_zero, List.set_cons_succ]
      refine wpAnyH_take (i := 22) (oi := ?oB_31_22) (v := ?vB_31_22) ?eB_31_22 (by kernel_rfl) (by kernel_rfl) (by kernel_rfl) ?qB_31_22 (Or.inl ⟨?wB_31_22, ?yB_31_22⟩) (by assumption) ?rB_31_22
      case eB_31_22 => simp only [List.getElem?_toArray, List.getElem?_cons_succ, List.getElem?_cons_zero]; rfl
      case wB_31_22 => rfl
      case qB_31_22 => exact fun _ _ _ h => h
      case yB_31_22 => (intro w hSw; (try dsimp only at hSw); go_simp; try with_reducible rfl)
      try simp only [Act.put, List.setIfInBounds_toArray, List.set_cons_zero, List.set_cons_succ]
      have hOld := hHeld
      clear hHeld
      refine wpAnyH_ready (rs := [4]) (by kernel_rfl) (by simp) ?_
      refine AllReadyH.cons (o := ?oB_32_4) ?eB_32_4 (fun K hK => ?_) AllReadyH.nil
      case eB_32_4 => simp only [List.getElem?_toArray, List.getElem?_cons_succ, List.getElem?_cons_zero]; rfl
      go_simp
      skip
      try go_wp2_with fail
      refine hK.out _ _ (HKP.out _ (by repeat (first | assumption | exact Below.refl _ _ | with_reducible refine below_drew ?_ | with_reducible refine below_al ?_ _))) (fun hHeld => ?_)
      clear hK hOld
      try simp only [Act.put, List.setIfInBounds_toArray, List.set_cons_zero, List.set_cons_succ]
      have hOld := hHeld
      clear hHeld
      refine wpAnyH_ready (rs := [13]) (by kernel_rfl) (by simp) ?_
      refine AllReadyH.cons (o := ?oB_33_13) ?eB_33_13 (fun K hK => ?_) AllReadyH.nil
      case eB_33_13 => simp only [List.getElem?_toArray, List.getElem?_cons_succ, List.getElem?_cons_zero]; rfl
      (refine step_append_at (K := filK) (by rfl) 33 42 _ 80 under_fils info_filO (by rfl) (fun k => (k ≠ g ∧ k ≠ ob ∧ k ≠ rb) ∧ k < w6.heap.size) w6 _ _ [] (.slice p1 n1 q1) (l.take i) (.tmp 60) (.tmp 68) (by rfl) (by rfl) (by rfl) (RO.newP (Nat.le_refl _)) (by repeat (first | assumption | exact Below.refl _ _ | with_reducible refine below_drew ?_ | with_reducible refine below_al ?_ _)) cs1 _ _ HSL1.out HEL1.out (fun _ hk h => ⟨h, hk⟩) (fun _ h => h.2) HLM1.out (by decide) ?_; intro v3 x3 h31 h32 h33; rw [List.nil_append] at h31; obtain ⟨q3, n3, e3⟩ := h31.isSlice; rw [HN1.out] at e3; subst e3)
      try go_wp2_with fail
      refine hK.out _ _ (HKP.out _ (by repeat (first | assumption | exact Below.refl _ _ | with_reducible refine below_drew ?_ | with_reducible refine below_al ?_ _))) (fun hHeld => ?_)
      clear hK hOld
      try simp only [Act.put, List.setIfInBounds_toArray, List.set_cons_zero, List.set_cons_succ]
      have hOld := hHeld
      clear hHeld
      refine wpAnyH_ready (rs := [23]) (by kernel_rfl) (by simp) ?_
      refine AllReadyH.cons (o := ?oB_34_23) ?eB_34_23 (fun K hK => ?_) AllReadyH.nil
      case eB_34_23 => simp only [List.getElem?_toArray, List.getElem?_cons_succ, List.getElem?_cons_zero]; rfl
      (refine step_append_at (K := filK) (by rfl) 33 42 _ 80 under_fils info_filO (by rfl) (fun k => (k ≠ g ∧ k ≠ ob ∧ k ≠ rb) ∧ k < w6.heap.size) w6 _ (.slice q3 n1 n3) (l.take i) (.slice p2 n2 q2) (l.drop j) (.tmp 69) (.tmp 78) (by rfl) (by rfl) (by rfl) h31 h32 cs2 _ _ HSL2.out HEL2.out (fun _ hk h => ⟨h, hk⟩) (fun _ h => h.2) HLM2.out (by decide) ?_; intro v6 x6 h61 h62 h63; rw [HLL.out] at h61; obtain ⟨q6, n6, e6⟩ := h61.isSlice; obtain ⟨nL, hnL⟩ : ∃ x, L.length = x := ⟨_, rfl⟩; rw [hnL] at e6; subst e6)
      try go_wp2_with fail
      refine hK.out _ _ (HKP.out _ (by repeat (first | assumption | exact Below.refl _ _ | with_reducible refine below_drew ?_ | with_reducible refine below_al ?_ _))) (fun hHeld => ?_)
      clear hK hOld
      try simp only [Act.put, List.setIfInBounds_toArray, List.set_cons_zero, List.set_cons_succ]
      refine wpAnyH_take (i := 24) (oi := ?oB_35_24) (v := ?vB_35_24) ?eB_35_24 (by kernel_rfl) (by kernel_rfl) (by kernel_rfl) ?qB_35_24 (Or.inl ⟨?wB_35_24, ?yB_35_24⟩) (by assumption) ?rB_35_24
      case eB_35_24 => simp only [List.getElem?_toArray, List.getElem?_cons_succ, List.getElem?_cons_zero]; rfl
      case wB_35_24 => rfl
      case qB_35_24 => exact fun _ _ _ h => h
      case yB_35_24 => (intro w hSw; (try dsimp only at hSw); go_simp; try with_reducible rfl)
      try simp only [Act.put, List.setIfInBounds_toArray, List.set_cons_zero, List.set_cons_succ]
      refine wpAnyH_done (by kernel_rfl) ?_ _
      have HX7 := Lib.hid (HX6.out.below h62)
      have HLT7 : Hid (g < w6.heap.size ∧ ob < w6.heap.size ∧ rb < w6.heap.size) := ⟨HX6.out.lv.lt, HX6.out.out.lt, HX6.out.res.lt⟩
      have HR7 : Hid (Rw filK (fun k => k ≠ g ∧ k ≠ ob ∧ k ≠ rb) x6 (.slice q6 nL n6) L) := h61.rows.mono fun k _ hk => hk.elim (fun e => by have := h61.base_le k e; have := HLT7.out; exact ⟨by omega, by omega, by omega⟩) (fun e => e.1.1)
      have r0 : x6.cell? ⟨g, m, none⟩ = some (.slice la n lc) := hHeld.2.1
      have f0 := HX7.out.lv.free m
      clear h31 h32 h33 h61 h62 h63 HLT7 HX6 HSL1 HSL2 HEL1 HEL2 hs1 hs2 HKP D0 HGR6 HGC6 HDB6 hHeld
      refine thenLast_of fun K hK => ?_
      go_wp2_with fail
      refine hK.out _ _ ?_
      clear hK r0 f0
      have HX8 : Hid (RaCtx w b2 rb ob g cap v e (.slice (some ⟨bd, od, none⟩) nd dc) (.slice aa na ac) (ls.set m L) (x6.setCell ⟨g, m, none⟩ (.slice q6 nL n6))) := HX7.out.set (by omega) HR7.out
      clear HX7 HR7
      go_wp2_with fail
      go_roundw
      · exact ⟨k + 1, _, by go_num, by omega, HDL2.out, HSM2.out, HX8.out⟩
      · simp only [intOf]; omega
    · have t1 : ¬ (k : Int) < (nd : Int) := by omega
      have HDF : Hid (dropsLs v.levels e.drops = some ls) := by
        have h1 := HDL.out
        rw [show e.drops.take k = e.drops by rw [List.take_of_length_le (by rw [HND.out]; omega)]] at h1
        exact h1
      have y0 : wr.cell? ⟨b2, 0, none⟩ = some (.slice da nd dc) := HX.out.ed.cell rfl
      clear HDL
      go_wp2_with fail
      clear y0 t1
      generalize wr = wd at *
      go_loopw [11, 12] (fun ov iv wr => ∃ (i : Nat) (b : Bool), ov = .bool b ∧ iv = .int .i64 (i : Int) ∧ i ≤ na ∧ Hid (b = true ↔ ∃ j, j < i ∧ OddAt e.adds j) ∧ Hid (∀ j, j < i → ¬ ClashAt ls e.adds j) ∧ Hid (Small (putsLs ls (e.adds.take i)) (100 + i)) ∧ Hid (RaCtx w b2 rb ob g cap v e (.slice da nd dc) (.slice aa na ac) (putsLs ls (e.adds.take i)) wr)) (fun _ iv _ => na - (intOf iv).toNat)
      case atStart => exact ⟨0, false, rfl, rfl, by omega, ⟨fun h => (by cases h), fun ⟨j, hj, _⟩ => absurd hj (by omega)⟩, fun j hj => absurd hj (by omega), HSM.out, HX.out⟩
      case round =>
        obtain ⟨i, b, rfl, rfl, hi, HOD, HCL, HS, HY⟩ := hrel
        clear HX HSM
        have y1 : wr.cell? ⟨b2, 1, none⟩ = some (.slice aa na ac) := HY.out.ed.cell rfl
        by_cases hin : i < na
        · have t1 : (i : Int) < (na : Int) := by omega
          have t2 : 0 ≤ (i : Int) := by omega
          have hil : i < e.adds.length := by rw [HNA.out]; exact hin
          obtain ⟨bd, od, capd, ed, _, _, hcd⟩ := adds_at HY.out.eat.adds (by omega)
          obtain ⟨ql, qm, hl0, hq1, hq2, hwf, hc7⟩ := hcd i hil
          rw [HNA.out] at ed
          injection ed with e1 e2 e3
          subst e1 e3
          have HMO := Lib.hid (putsLs_more (ls := ls) hil)
          have HNUM := Lib.hid (fun n => mem_addNums (l := e.adds) (k := i) (n := n) (by omega))
          have HCI := Lib.hid (clash_iff (ls := ls) (l := e.adds) (k := i) (by omega))
          have HKI := Lib.hid (HKY.out _ (adat_mem hil))
          have HOI : Hid (OddAt e.adds i ↔ ¬ (0 ≤ (adat e.adds i).1 ∧ (adat e.adds i).1 < 5)) := Iff.rfl
          have HCLA : Hid (ClashAt ls e.adds i → applyW v e = (zeroV, 5)) := fun h => applyW_clash HC.out HDF.out ⟨i, by rw [HNA.out]; exact hin, h⟩
          obtain ⟨a, haa⟩ : ∃ a, adat e.adds i = a := ⟨_, rfl⟩
          rw [haa] at hl0 hq1 hq2 hwf hc7 HMO HCI HKI HOI
          obtain ⟨lev, f⟩ := a
          have hl0 : i64In lev := hl0
          have HQ1 : Hid (Bytes (fun k => k < w.heap.size) wr ql f.least) := hq1
          have HQ2 : Hid (Bytes (fun k => k < w.heap.size) wr qm f.most) := hq2
          have HWF2 : Hid f.wf := hwf
          obtain ⟨la, lc, rfl⟩ := HQ1.out.isSlice
          obtain ⟨ma, mc, rfl⟩ := HQ2.out.isSlice
          obtain ⟨d0, d1, d2, d3, d4, d5, d6⟩ := hc7
          have d0 : wr.cell? ⟨bd, od + i * 7, none⟩ = some (.int .i64 lev) := d0
          have d1 : wr.cell? ⟨bd, od + i * 7 + 1, none⟩ = some (.int .u64 f.num) := d1
          have d2 : wr.cell? ⟨bd, od + i * 7 + 2, none⟩ = some (.int .i64 f.size) := d2
          have d3 : wr.cell? ⟨bd, od + i * 7 + 3, none⟩ = some (.slice la f.least.length lc) := d3
          have d4 : wr.cell? ⟨bd, od + i * 7 + 4, none⟩ = some (.slice ma f.most.length mc) := d4
          have d5 : wr.cell? ⟨bd, od + i * 7 + 5, none⟩ = some (.int .i64 f.ents) := d5
          have d6 : wr.cell? ⟨bd, od + i * 7 + 6, none⟩ = some (.int .u64 f.mseq) := d6
          clear e2 hcd haa hil hq1 hq2 hwf
          go_upto_region 20 with fail
          clear d0 d1 d2 d3 d4 d5 d6 y1
          refine wp_gen fun w5 hw5 => ?_
          have hb5 : Below wr.heap.size wr w5 := by rw [hw5]; exact (Below.refl _ _).alloc (Nat.le_refl _) _
          have HAB : Hid (Blk w5 wr.heap.size (addCells lev f (.slice la f.least.length lc) (.slice ma f.most.length mc)).toArray 104) := by rw [hw5]; exact Blk.at_new rfl rfl
          have HY5 := Lib.hid (HY.out.below hb5)
          have HQ15 := Lib.hid (HQ1.out.below hb5)
          have HQ25 := Lib.hid (HQ2.out.below hb5)
          clear hw5 hb5 HY HQ1 HQ2
          generalize wr.heap.size = ab at *
          have x0 : w5.cell? ⟨ob, 0, none⟩ = some (.slice (some ⟨g, 0, none⟩) 5 cap) := HY5.out.out.cell rfl
          have x1 : w5.cell? ⟨ob, 1, none⟩ = some (.int .u64 v.next) := HY5.out.out.cell rfl
          have x2 : w5.cell? ⟨ob, 2, none⟩ = some (.int .u64 v.seq) := HY5.out.out.cell rfl
          have x3 : w5.cell? ⟨ob, 3, none⟩ = some (.int .u64 v.log) := HY5.out.out.cell rfl
          have a1 : w5.cell? ⟨ab, 1, none⟩ = some (.int .u64 f.num) := HAB.out.cell rfl
          have HCN : Hid (cntTo (putsLs ls (e.adds.take i)) (putsLs ls (e.adds.take i)).length ≤ 1000000) := Nat.le_trans HS.out.cnt (by omega)
          have HC5 : Hid ((putsLs ls (e.adds.take i)).length ≤ 1000000) := by show _ ≤ _; rw [HS.out.five]; decide
          go_wp2_with fail
          clear x0 x1 x2 x3 a1
          refine Calls.mono (ranywhere_any _ ⟨putsLs ls (e.adds.take i), v.next, v.seq, v.log⟩ (.slice (some ⟨g, 0, none⟩) 5 cap) f.num w5 (HY5.out.lv.rows HY5.out.cap.1 HY5.out.cap.2) HCN.out HC5.out) ?_
          rintro _ w6 ⟨rfl, hb⟩
          have HY6 := Lib.hid (HY5.out.below hb)
          have HAB6 := Lib.hid (HAB.out.below hb HAB.out.lt)
          have HQ16 := Lib.hid (HQ15.out.below hb)
          have HQ26 := Lib.hid (HQ25.out.below hb)
          clear hb HY5 HAB HQ15 HQ25 HCN HC5
          obtain ⟨P, hP⟩ : ∃ x, putsLs ls (e.adds.take i) = x := ⟨_, rfl⟩
          have HPP := Lib.hid hP
          rw [hP] at HY6 HMO HCI HS
          obtain ⟨hn, hhn⟩ : ∃ x, hasNum P f.num = x := ⟨_, rfl⟩
          rw [show hasNum (Ver.mk (putsLs ls (e.adds.take i)) v.next v.seq v.log).levels f.num = hn by rw [← hhn, ← hP]]
          rw [hhn] at HCI
          clear hP hhn
          cases hn with
          | true =>
            have HF := Lib.hid (HCLA.out (HCI.out.1 (.inl rfl)))
            obtain ⟨z0, z1, z2, z3, f0, f1, f2, f3⟩ := zero4_cells HY6.out.res
            go_wp2_with fail
            refine bodyPost_ret (results_cell_tmp1 (p := 4) (t := 5) rfl _ _ rb 25 zero4 _ rfl (blk_zero4 HY6.out.res) Try.underlying25 rfl (by kernel_rfl)) rfl ?_
            exact HY6.out.bad HF.out
          | false =>
          have HCI : Hid (f.num ∈ addNums e.adds i ↔ ClashAt ls e.adds i) := by
            constructor
            · intro h; exact HCI.out.1 (.inr h)
            · intro h; exact (HCI.out.2 h).elim (fun h => by cases h) id
          generalize wr = wo at *
          go_wp2_with fail
          go_loopw [14] (fun kv wr => ∃ k2 : Nat, kv = .int .i64 (k2 : Int) ∧ k2 ≤ i ∧ Hid (∀ j, j < k2 → (adat e.adds j).2.num ≠ f.num) ∧ Hid (Below w6.heap.size w6 wr)) (fun kv _ => i - (intOf kv).toNat)
          case atStart => exact ⟨0, rfl, by omega, fun j hj => absurd hj (by omega), Below.refl _ _⟩
          case round =>
            obtain ⟨k2, rfl, hk2, HNN, HB⟩ := hrel
            have HYr := Lib.hid (HY6.out.below HB.out)
            by_cases hki : k2 < i
            · have u1 : (k2 : Int) < (i : Int) := by omega
              have u2 : 0 ≤ (k2 : Int) := by omega
              have u3 : (k2 : Int) < (na : Int) := by omega
              have hkl : k2 < e.adds.length := by rw [HNA.out]; omega
              obtain ⟨_, _, _, ed, _, _, hcd⟩ := adds_at HYr.out.eat.adds (by omega)
              rw [HNA.out] at ed
              injection ed with e1 e2 e3
              injection e1 with e1
              injection e1 with e1 e4
              subst e1 e4 e3
              clear e2
              obtain ⟨_, _, _, _, _, _, hc7⟩ := hcd k2 hkl
              obtain ⟨-, d1, -⟩ := hc7
              obtain ⟨nk, hnk⟩ : ∃ x, (adat e.adds k2).2.num = x := ⟨_, rfl⟩
              rw [hnk] at d1
              have HNK := Lib.hid hnk
              have y1 : wr.cell? ⟨b2, 1, none⟩ = some (.slice (some ⟨bd, od, none⟩) na ac) := HYr.out.ed.cell rfl
              have a1 : wr.cell? ⟨ab, 1, none⟩ = some (.int .u64 f.num) := (HAB6.out.below HB.out HAB6.out.lt).cell rfl
              clear hcd hnk hkl
              by_cases heq : nk = f.num
              · have HF := Lib.hid (HCLA.out (HCI.out.1 ((HNUM.out f.num).2 ⟨k2, hki, by rw [HNK.out]; exact heq⟩)))
                obtain ⟨z0, z1, z2, z3, f0, f1, f2, f3⟩ := zero4_cells HYr.out.res
                have g0 : (nk == f.num) = true := by simpa using heq
                clear heq
                go_wp2_with fail
                go_quiet (fail)
                all_goals
                  go_wp2_with fail
                  refine bodyPost_ret (results_cell_tmp1 (p := 4) (t := 5) rfl _ _ rb 25 zero4 _ rfl (blk_zero4 HYr.out.res) Try.underlying25 rfl (by kernel_rfl)) rfl ?_
                  exact (HYr.out.below (below_dn (Below.refl _ _) _)).bad HF.out
              · have g0 : (nk == f.num) = false := by simpa using heq
                have HN2 : Hid (∀ j, j < k2 + 1 → (adat e.adds j).2.num ≠ f.num) := fun j hj => by
                  by_cases ej : j = k2
                  · rw [ej, HNK.out]; exact heq
                  · exact HNN.out j (by omega)
                clear heq
                go_wp2_with fail
                go_quiet (fail)
                all_goals
                  go_wp2_with fail
                  go_roundw
                  · exact ⟨k2 + 1, by go_num, by omega, HN2.out, below_dn HB.out _⟩
                  · simp only [intOf]; omega
            · have u1 : ¬ (k2 : Int) < (i : Int) := by omega
              obtain rfl : k2 = i := by omega
              have HNC : Hid (¬ ClashAt ls e.adds k2) := fun h => by
                obtain ⟨j, hj, hjn⟩ := (HNUM.out f.num).1 (HCI.out.2 h)
                exact HNN.out j hj hjn
              have HAB7 := Lib.hid (HAB6.out.below HB.out HAB6.out.lt)
              have HQ17 := Lib.hid (HQ16.out.below HB.out)
              have HQ27 := Lib.hid (HQ26.out.below HB.out)
              clear HAB6 HQ16 HQ26 HY6 HB HNN HNUM HCI HCLA
              have HCL2 : Hid (∀ j, j < k2 + 1 → ¬ ClashAt ls e.adds j) := fun j hj => by
                by_cases ej : j = k2
                · rw [ej]; exact HNC.out
                · exact HCL.out j (by omega)
              have a0 : wr.cell? ⟨ab, 0, none⟩ = some (.int .i64 lev) := HAB7.out.cell rfl
              clear HCL HNC
              by_cases hl : 0 ≤ lev ∧ lev < 5
              case neg =>
                have HM2 : Hid (putsLs ls (e.adds.take (k2 + 1)) = P) := by show _ = _; rw [HMO.out, if_neg hl]
                have HOD2 : Hid (true = true ↔ ∃ j, j < k2 + 1 ∧ OddAt e.adds j) := ⟨fun _ => ⟨k2, by omega, HOI.out.2 hl⟩, fun _ => rfl⟩
                have HS2 : Hid (Small P (100 + (k2 + 1))) := HS.out.more
                clear HMO HOI HOD
                by_cases hl1 : lev < 0
                · clear hl hl0
                  go_wp2_with fail
                  clear a0
                  go_roundw
                  · exact ⟨k2 + 1, true, rfl, by go_num, by omega, HOD2.out, HCL2.out, by rw [HM2.out]; exact HS2.out, by show RaCtx _ _ _ _ _ _ _ _ _ _ _ _; rw [HM2.out]; exact HYr.out⟩
                  · simp only [intOf]; omega
                · have hl2 : 5 ≤ lev := by omega
                  clear hl hl0
                  go_wp2_with fail
                  clear a0
                  go_roundw
                  · exact ⟨k2 + 1, true, rfl, by go_num, by omega, HOD2.out, HCL2.out, by rw [HM2.out]; exact HS2.out, by show RaCtx _ _ _ _ _ _ _ _ _ _ _ _; rw [HM2.out]; exact HYr.out⟩
                  · simp only [intOf]; omega
              obtain ⟨m, rfl⟩ : ∃ m : Nat, lev = (m : Int) := ⟨lev.toNat, by omega⟩
              have t3 : (m : Int) < 5 := by omega
              have t4 : 0 ≤ (m : Int) := by omega
              have t5 : ¬ (m : Int) < 0 := by omega
              have t6 : ¬ 5 ≤ (m : Int) := by omega
              have hm5 : m < 5 := by omega
              obtain ⟨ra, rc, hgc, hgr⟩ := HYr.out.lv.get hm5
              have HOD2 : Hid (b = true ↔ ∃ j, j < k2 + 1 ∧ OddAt e.adds j) := by
                constructor
                · intro hb
                  obtain ⟨j, hj, ho⟩ := HOD.out.1 hb
                  exact ⟨j, by omega, ho⟩
                · rintro ⟨j, hj, ho⟩
                  by_cases ej : j = k2
                  · rw [ej] at ho; exact absurd hl (HOI.out.1 ho)
                  · exact HOD.out.2 ⟨j, by omega, ho⟩
              have HM2 : Hid (putsLs ls (e.adds.take (k2 + 1)) = P.set m (putTo (lat P m) (m : Int) f)) := by
                show _ = _
                rw [HMO.out, if_pos hl, Int.toNat_natCast]
                rfl
              have HS2 : Hid (Small (putLs P m f) (100 + k2 + 1)) := HS.out.put hm5 HKI.out
              have HS2 : Hid (Small (P.set m (putTo (lat P m) (m : Int) f)) (100 + (k2 + 1))) := HS2.out
              have HRL : Hid ((lat P m).length ≤ 400000) := Nat.le_trans (HS.out.len m hm5) (by omega)
              obtain ⟨L, hL⟩ : ∃ x, lat P m = x := ⟨_, rfl⟩
              rw [hL] at hgc hgr HM2 HS2 HRL
              obtain ⟨nr, hnr⟩ : ∃ x, L.length = x := ⟨_, rfl⟩
              have HGR := Lib.hid hgr
              rw [hnr] at hgc HGR
              have HKP : Hid (∀ W, Below wr.heap.size wr W → (W.cell? ⟨ob, 0, none⟩ = some (.slice (some ⟨g, 0, none⟩) 5 cap) ∧ W.cell? ⟨g, m, none⟩ = some (.slice ra nr rc) ∧ W.cell? ⟨ab, 0, none⟩ = some (.int .i64 (m : Int)) ∧ W.cell? ⟨ab, 1, none⟩ = some (.int .u64 f.num) ∧ W.cell? ⟨ab, 2, none⟩ = some (.int .i64 f.size) ∧ W.cell? ⟨ab, 3, none⟩ = some (.slice la f.least.length lc) ∧ W.cell? ⟨ab, 4, none⟩ = some (.slice ma f.most.length mc) ∧ W.cell? ⟨ab, 5, none⟩ = some (.int .i64 f.ents) ∧ W.cell? ⟨ab, 6, none⟩ = some (.int .u64 f.mseq))) := fun W hb => by
                have h1 := HAB7.out.below hb HAB7.out.lt
                exact ⟨(HYr.out.out.below hb HYr.out.out.lt).cell rfl, (hb.cell (p := ⟨g, m, none⟩) HYr.out.lv.lt).trans hgc, h1.cell rfl, h1.cell rfl, h1.cell rfl, h1.cell rfl, h1.cell rfl, h1.cell rfl, h1.cell rfl⟩
              have HLT : Hid (g < wr.heap.size ∧ ob < wr.heap.size ∧ rb < wr.heap.size) := ⟨HYr.out.lv.lt, HYr.out.out.lt, HYr.out.res.lt⟩
              have HK1 : Hid (f.least.length ≤ 140737488355328 ∧ f.most.length ≤ 140737488355328) := ⟨Nat.le_trans HKI.out.1 (by decide), Nat.le_trans HKI.out.2 (by decide)⟩
              clear hL hnr hgr hgc HMO HOI HOD hl hl0 HS HKI
              go_upto_region 29 with fail
              clear a0
              have D0 : Below wr.heap.size wr wr.drew := below_drew (Below.refl _ _)
              have hHeld := HKP.out _ D0
              refine wp_region_last (S := fun W => (W.cell? ⟨ob, 0, none⟩ = some (.slice (some ⟨g, 0, none⟩) 5 cap) ∧ W.cell? ⟨g, m, none⟩ = some (.slice ra nr rc) ∧ W.cell? ⟨ab, 0, none⟩ = some (.int .i64 (m : Int)) ∧ W.cell? ⟨ab, 1, none⟩ = some (.int .u64 f.num) ∧ W.cell? ⟨ab, 2, none⟩ = some (.int .i64 f.size) ∧ W.cell? ⟨ab, 3, none⟩ = some (.slice la f.least.length lc) ∧ W.cell? ⟨ab, 4, none⟩ = some (.slice ma f.most.length mc) ∧ W.cell? ⟨ab, 5, none⟩ = some (.int .i64 f.ents) ∧ W.cell? ⟨ab, 6, none⟩ = some (.int .u64 f.mseq))) (n := 17) (l := ?lU) (o := ?oU) rfl ?hlU ?hoU ?hnU ?hbU ?hgU ?hU
              case hlU => simp only [List.dropLast]; rfl
              case hoU => rfl
              case hnU => rfl
              case hbU => kernel_rfl
              case hgU => rfl
              skip
              refine wpAnyH_take (i := 0) (oi := ?oC_36_0) (v := ?vC_36_0) ?eC_36_0 (by kernel_rfl) (by kernel_rfl) (by kernel_rfl) ?qC_36_0 (Or.inl ⟨?wC_36_0, ?yC_36_0⟩) (by assumption) ?rC_36_0
              case eC_36_0 => simp only [List.getElem?_toArray, List.getElem?_cons_zero]; rfl
              case wC_36_0 => rfl
              case qC_36_0 => exact fun _ _ _ h => h
              case yC_36_0 => (intro w hSw; (try dsimp only at hSw); go_simp; try with_reducible rfl)
              try simp only [Act.put, List.setIfInBounds_toArray, List.set_cons_zero, List.set_cons_succ]
              refine wpAnyH_take (i := 1) (oi := ?oC_37_1) (v := ?vC_37_1) ?eC_37_1 (by kernel_rfl) (by kernel_rfl) (by kernel_rfl) ?qC_37_1 (Or.inl ⟨?wC_37_1, ?yC_37_1⟩) (by assumption) ?rC_37_1
              case eC_37_1 => simp only [List.getElem?_toArray, List.getElem?_cons_succ, List.getElem?_cons_zero]; rfl
              case wC_37_1 => rfl
              case qC_37_1 => exact fun _ _ _ h => h
              case yC_37_1 => (intro w hSw; (try dsimp only at hSw); go_simp; try with_reducible rfl)
              try simp only [Act.put, List.setIfInBounds_toArray, List.set_cons_zero, List.set_cons_succ]
              refine wpAnyH_take (i := 2) (oi := ?oC_38_2) (v := ?vC_38_2) ?eC_38_2 (by kernel_rfl) (by kernel_rfl) (by kernel_rfl) ?qC_38_2 (Or.inl ⟨?wC_38_2, ?yC_38_2⟩) (by assumption) ?rC_38_2
              case eC_38_2 => simp only [List.getElem?_toArray, List.getElem?_cons_succ, List.getElem?_cons_zero]; rfl
              case wC_38_2 => rfl
              case qC_38_2 => exact fun _ _ _ h => h
              case yC_38_2 => (intro w hSw; (try dsimp only at hSw); go_simp; try with_reducible rfl)
              try simp only [Act.put, List.setIfInBounds_toArray, List.set_cons_zero, List.set_cons_succ]
              refine wpAnyH_take (i := 3) (oi := ?oC_39_3) (v := ?vC_39_3) ?eC_39_3 (by kernel_rfl) (by kernel_rfl) (by kernel_rfl) ?qC_39_3 (Or.inl ⟨?wC_39_3, ?yC_39_3⟩) (by assumption) ?rC_39_3
              case eC_39_3 => simp only [List.getElem?_toArray, List.getElem?_cons_succ, List.getElem?_cons_zero]; rfl
              case wC_39_3 => rfl
              case qC_39_3 => exact fun _ _ _ h => h
              case yC_39_3 => (intro w hSw; (try dsimp only at hSw); go_simp; try with_reducible rfl)
              try simp only [Act.put, List.setIfInBounds_toArray, List.set_cons_zero, List.set_cons_succ]
              refine wpAnyH_take (i := 4) (oi := ?oC_40_4) (v := ?vC_40_4) ?eC_40_4 (by kernel_rfl) (by kernel_rfl) (by kernel_rfl) ?qC_40_4 (Or.inl ⟨?wC_40_4, ?yC_40_4⟩) (by assumption) ?rC_40_4
              case eC_40_4 => simp only [List.getElem?_toArray, List.getElem?_cons_succ, List.getElem?_cons_zero]; rfl
              case wC_40_4 => rfl
              case qC_40_4 => exact fun _ _ _ h => h
              case yC_40_4 => (intro w hSw; (try dsimp only at hSw); go_simp; try with_reducible rfl)
              try simp only [Act.put, List.setIfInBounds_toArray, List.set_cons_zero, List.set_cons_succ]
              refine wpAnyH_take (i := 5) (oi := ?oC_41_5) (v := ?vC_41_5) ?eC_41_5 (by kernel_rfl) (by kernel_rfl) (by kernel_rfl) ?qC_41_5 (Or.inl ⟨?wC_41_5, ?yC_41_5⟩) (by assumption) ?rC_41_5
              case eC_41_5 => simp only [List.getElem?_toArray, List.getElem?_cons_succ, List.getElem?_cons_zero]; rfl
              case wC_41_5 => rfl
              case qC_41_5 => exact fun _ _ _ h => h
              case yC_41_5 => (intro w hSw; (try dsimp only at hSw); go_simp; try with_reducible rfl)
              try simp only [Act.put, List.setIfInBounds_toArray, List.set_cons_zero, List.set_cons_succ]
              refine wpAnyH_take (i := 6) (oi := ?oC_42_6) (v := ?vC_42_6) ?eC_42_6 (by kernel_rfl) (by kernel_rfl) (by kernel_rfl) ?qC_42_6 (Or.inl ⟨?wC_42_6, ?yC_42_6⟩) (by assumption) ?rC_42_6
              case eC_42_6 => simp only [List.getElem?_toArray, List.getElem?_cons_succ, List.getElem?_cons_zero]; rfl
              case wC_42_6 => rfl
              case qC_42_6 => exact fun _ _ _ h => h
              case yC_42_6 => (intro w hSw; (try dsimp only at hSw); go_simp; try with_reducible rfl)
              try simp only [Act.put, List.setIfInBounds_toArray, List.set_cons_zero, List.set_cons_succ]
              refine wpAnyH_take (i := 7) (oi := ?oC_43_7) (v := ?vC_43_7) ?eC_43_7 (by kernel_rfl) (by kernel_rfl) (by kernel_rfl) ?qC_43_7 (Or.inl ⟨?wC_43_7, ?yC_43_7⟩) (by assumption) ?rC_43_7
              case eC_43_7 => simp only [List.getElem?_toArray, List.getElem?_cons_succ, List.getElem?_cons_zero]; rfl
              case wC_43_7 => rfl
              case qC_43_7 => exact fun _ _ _ h => h
              case yC_43_7 => (intro w hSw; (try dsimp only at hSw); go_simp; try with_reducible rfl)
              try simp only [Act.put, List.setIfInBounds_toArray, List.set_cons_zero, List.set_cons_succ]
              refine wpAnyH_take (i := 8) (oi := ?oC_44_8) (v := ?vC_44_8) ?eC_44_8 (by kernel_rfl) (by kernel_rfl) (by kernel_rfl) ?qC_44_8 (Or.inl ⟨?wC_44_8, ?yC_44_8⟩) (by assumption) ?rC_44_8
              case eC_44_8 => simp only [List.getElem?_toArray, List.getElem?_cons_succ, List.getElem?_cons_zero]; rfl
              case wC_44_8 => rfl
              case qC_44_8 => exact fun _ _ _ h => h
              case yC_44_8 => (intro w hSw; (try dsimp only at hSw); go_simp; try with_reducible rfl)
              try simp only [Act.put, List.setIfInBounds_toArray, List.set_cons_zero, List.set_cons_succ]
              refine wpAnyH_take (i := 9) (oi := ?oC_45_9) (v := ?vC_45_9) ?eC_45_9 (by kernel_rfl) (by kernel_rfl) (by kernel_rfl) ?qC_45_9 (Or.inl ⟨?wC_45_9, ?yC_45_9⟩) (by assumption) ?rC_45_9
              case eC_45_9 => simp only [List.getElem?_toArray, List.getElem?_cons_succ, List.getElem?_cons_zero]; rfl
              case wC_45_9 => rfl
              case qC_45_9 => exact fun _ _ _ h => h
              case yC_45_9 => (intro w hSw; (try dsimp only at hSw); go_simp; try with_reducible rfl)
              try simp only [Act.put, List.setIfInBounds_toArray, List.set_cons_zero, List.set_cons_succ]
              refine wpAnyH_take (i := 10) (oi := ?oC_46_10) (v := ?vC_46_10) ?eC_46_10 (by kernel_rfl) (by kernel_rfl) (by kernel_rfl) ?qC_46_10 (Or.inl ⟨?wC_46_10, ?yC_46_10⟩) (by assumption) ?rC_46_10
              case eC_46_10 => simp only [List.getElem?_toArray, List.getElem?_cons_succ, List.getElem?_cons_zero]; rfl
              case wC_46_10 => rfl
              case qC_46_10 => exact fun _ _ _ h => h
              case yC_46_10 => (intro w hSw; (try dsimp only at hSw); go_simp; try with_reducible rfl)
              try simp only [Act.put, List.setIfInBounds_toArray, List.set_cons_zero, List.set_cons_succ]
              refine wpAnyH_take (i := 11) (oi := ?oC_47_11) (v := ?vC_47_11) ?eC_47_11 (by kernel_rfl) (by kernel_rfl) (by kernel_rfl) ?qC_47_11 (Or.inl ⟨?wC_47_11, ?yC_47_11⟩) (by assumption) ?rC_47_11
              case eC_47_11 => simp only [List.getElem?_toArray, List.getElem?_cons_succ, List.getElem?_cons_zero]; rfl
              case wC_47_11 => rfl
              case qC_47_11 => exact fun _ _ _ h => h
              case yC_47_11 => (intro w hSw; (try dsimp only at hSw); go_simp; try with_reducible rfl)
              try simp only [Act.put, List.setIfInBounds_toArray, List.set_cons_zero, List.set_cons_succ]
              refine wpAnyH_take (i := 13) (oi := ?oC_48_13) (v := ?vC_48_13) ?eC_48_13 (by kernel_rfl) (by kernel_rfl) (by kernel_rfl) ?qC_48_13 (Or.inl ⟨?wC_48_13, ?yC_48_13⟩) (by assumption) ?rC_48_13
              case eC_48_13 => simp only [List.getElem?_toArray, List.getElem?_cons_succ, List.getElem?_cons_zero]; rfl
              case wC_48_13 => rfl
              case qC_48_13 => exact fun _ _ _ h => h
              case yC_48_13 => (intro w hSw; (try dsimp only at hSw); go_simp; try with_reducible rfl)
              try simp only [Act.put, List.setIfInBounds_toArray, List.set_cons_zero, List.set_cons_succ]
              refine wpAnyH_take (i := 14) (oi := ?oC_49_14) (v := ?vC_49_14) ?eC_49_14 (by kernel_rfl) (by kernel_rfl) (by kernel_rfl) ?qC_49_14 (Or.inl ⟨?wC_49_14, ?yC_49_14⟩) (by assumption) ?rC_49_14
              case eC_49_14 => simp only [List.getElem?_toArray, List.getElem?_cons_succ, List.getElem?_cons_zero]; rfl
              case wC_49_14 => rfl
              case qC_49_14 => exact fun _ _ _ h => h
              case yC_49_14 => (intro w hSw; (try dsimp only at hSw); go_simp; try with_reducible rfl)
              try simp only [Act.put, List.setIfInBounds_toArray, List.set_cons_zero, List.set_cons_succ]
              have hOld := hHeld
              clear hHeld
              refine wpAnyH_ready (rs := [12]) (by kernel_rfl) (by simp) ?_
              refine AllReadyH.cons (o := ?oC_50_12) ?eC_50_12 (fun K hK => ?_) AllReadyH.nil
              case eC_50_12 => simp only [List.getElem?_toArray, List.getElem?_cons_succ, List.getElem?_cons_zero]; rfl
              go_simp
              (go_at_call 82; refine Calls.mono (rown_any _ _ f _ _ _ (HQ17.out.below D0) (HQ27.out.below D0) HK1.out.1 HK1.out.2) ?_; rintro _ x0 ⟨ol, om, rfl, ho1, ho2, hb0⟩; have D1 : Below wr.heap.size wr x0 := D0.trans (hb0.mono D0.size); clear hb0)
              try go_wp2_with fail
              refine hK.out _ _ (HKP.out _ D1) (fun hHeld => ?_)
              clear hK hOld
              try simp only [Act.put, List.setIfInBounds_toArray, List.set_cons_zero, List.set_cons_succ]
              have hOld := hHeld
              clear hHeld
              refine wpAnyH_ready (rs := [15]) (by kernel_rfl) (by simp) ?_
              refine AllReadyH.cons (o := ?oC_51_15) ?eC_51_15 (fun K hK => ?_) AllReadyH.nil
              case eC_51_15 => simp only [List.getElem?_toArray, List.getElem?_cons_succ, List.getElem?_cons_zero]; rfl
              go_simp
              (go_at_call 81; refine Calls.mono (rputF_any _ _ (.slice ra nr rc) _ _ L (m : Int) f _ (HGR.out.below D1) ho1 ho2 HWF2.out HRL.out t4) ?_; rintro _ x1 ⟨r, rfl, hr, hb1⟩; have D2 : Below wr.heap.size wr x1 := D1.trans (hb1.mono D1.size); clear hb1; obtain ⟨q6, n6, e6⟩ := hr.isSlice; obtain ⟨nL, hnL⟩ : ∃ x, (putTo L (m : Int) f).length = x := ⟨_, rfl⟩; rw [hnL] at e6; subst e6)
              try go_wp2_with fail
              refine hK.out _ _ (HKP.out _ D2) (fun hHeld => ?_)
              clear hK hOld
              try simp only [Act.put, List.setIfInBounds_toArray, List.set_cons_zero, List.set_cons_succ]
              refine wpAnyH_take (i := 16) (oi := ?oC_52_16) (v := ?vC_52_16) ?eC_52_16 (by kernel_rfl) (by kernel_rfl) (by kernel_rfl) ?qC_52_16 (Or.inl ⟨?wC_52_16, ?yC_52_16⟩) (by assumption) ?rC_52_16
              case eC_52_16 => simp only [List.getElem?_toArray, List.getElem?_cons_succ, List.getElem?_cons_zero]; rfl
              case wC_52_16 => rfl
              case qC_52_16 => exact fun _ _ _ h => h
              case yC_52_16 => (intro w hSw; (try dsimp only at hSw); go_simp; try with_reducible rfl)
              try simp only [Act.put, List.setIfInBounds_toArray, List.set_cons_zero, List.set_cons_succ]
              refine wpAnyH_done (by kernel_rfl) ?_ _
              have HX7 := Lib.hid (HYr.out.below D2)
              have HR7 : Hid (Rw filK (fun k => k ≠ g ∧ k ≠ ob ∧ k ≠ rb) x1 (.slice q6 nL n6) (putTo L (m : Int) f)) := hr.mono fun k _ hk => by
                have g1 := HLT.out
                have g2 := D1.size
                rcases hk with hk | hk | hk
                · exact ⟨by omega, by omega, by omega⟩
                · exact hk
                · have hk : wr.heap.size ≤ k := hk
                  exact ⟨by omega, by omega, by omega⟩
              have r0 : x1.cell? ⟨g, m, none⟩ = some (.slice ra nr rc) := hHeld.2.1
              have f0 := HX7.out.lv.free m
              clear ho1 ho2 hr HLT HYr HQ17 HQ27 HAB7 HKP D0 D1 D2 HGR hHeld
              refine thenLast_of fun K hK => ?_
              go_wp2_with fail
              refine hK.out _ _ ?_
              clear hK r0 f0
              have HX8 : Hid (RaCtx w b2 rb ob g cap v e (.slice da nd dc) (.slice (some ⟨bd, od, none⟩) na ac) (P.set m (putTo L (m : Int) f)) (x1.setCell ⟨g, m, none⟩ (.slice q6 nL n6))) := HX7.out.set hm5 HR7.out
              clear HX7 HR7
              go_wp2_with fail
              go_roundw
              · exact ⟨k2 + 1, b, rfl, by go_num, by omega, HOD2.out, HCL2.out, by rw [HM2.out]; exact HS2.out, by show RaCtx _ _ _ _ _ _ _ _ _ _ _ _; rw [HM2.out]; exact HX8.out⟩
              · simp only [intOf]; omega
        · have t1 : ¬ (i : Int) < (na : Int) := by omega
          obtain rfl : i = na := by omega
          have hta : e.adds.take i = e.adds := by rw [List.take_of_length_le (by rw [HNA.out]; omega)]
          have HNC : Hid (¬ Clash ls e.adds) := fun ⟨j, hj, hc⟩ => HCL.out j (by rw [← HNA.out]; exact hj) hc
          have HOL : Hid (b = true ↔ OddLev e.adds) := by
            show _ ↔ _
            rw [HOD.out]
            exact ⟨fun ⟨j, hj, ho⟩ => ⟨j, by rw [HNA.out]; exact hj, ho⟩, fun ⟨j, hj, ho⟩ => ⟨j, by rw [← HNA.out]; exact hj, ho⟩⟩
          rw [hta] at HS HY
          clear hta HOD HCL
          go_wp2_with fail
          clear y1 t1
          have HKP : Hid (∀ W, Wrote (fun k => k = ob) wr W → (W.cell? ⟨b2, 2, none⟩ = some (.int .u64 e.next) ∧ W.cell? ⟨b2, 3, none⟩ = some (.int .u64 e.seq) ∧ W.cell? ⟨b2, 4, none⟩ = some (.int .u64 e.log))) := fun W hw => by
            have h1 := HY.out.ed.same (hw.block _ HY.out.ed.lt (fun e => HY.out.ne.2.2.2.2.1 e.symm))
            exact ⟨h1.cell rfl, h1.cell rfl, h1.cell rfl⟩
          have o1 : wr.cell? ⟨ob, 1, none⟩ = some (.int .u64 v.next) := HY.out.out.cell rfl
          have o2 : wr.cell? ⟨ob, 2, none⟩ = some (.int .u64 v.seq) := HY.out.out.cell rfl
          have o3 : wr.cell? ⟨ob, 3, none⟩ = some (.int .u64 v.log) := HY.out.out.cell rfl
          have f1 := HY.out.out.free 1
          have f2 := HY.out.out.free 2
          have f3 := HY.out.out.free 3
          have W0 : Wrote (fun k => k = ob) wr wr.drew := Wrote.of_below (below_drew (Below.refl _ _))
          refine wp_region_held_drew (S := fun W => (W.cell? ⟨b2, 2, none⟩ = some (.int .u64 e.next) ∧ W.cell? ⟨b2, 3, none⟩ = some (.int .u64 e.seq) ∧ W.cell? ⟨b2, 4, none⟩ = some (.int .u64 e.log))) (by kernel_rfl) (HKP.out _ W0) (fun hHeld => ?_)
          refine wpAnyH_take (i := 0) (oi := ?oD_53_0) (v := ?vD_53_0) ?eD_53_0 (by kernel_rfl) (by kernel_rfl) (by kernel_rfl) ?qD_53_0 (Or.inl ⟨?wD_53_0, ?yD_53_0⟩) (by assumption) ?rD_53_0
          case eD_53_0 => simp only [List.getElem?_toArray, List.getElem?_cons_zero]; rfl
          case wD_53_0 => rfl
          case qD_53_0 => exact fun _ _ _ h => h
          case yD_53_0 => (intro w hSw; (try dsimp only at hSw); go_simp; try with_reducible rfl)
          try simp only [Act.put, List.setIfInBounds_toArray, List.set_cons_zero, List.set_cons_succ]
          refine wpAnyH_take (i := 1) (oi := ?oD_54_1) (v := ?vD_54_1) ?eD_54_1 (by kernel_rfl) (by kernel_rfl) (by kernel_rfl) ?qD_54_1 (Or.inl ⟨?wD_54_1, ?yD_54_1⟩) (by assumption) ?rD_54_1
          case eD_54_1 => simp only [List.getElem?_toArray, List.getElem?_cons_succ, List.getElem?_cons_zero]; rfl
          case wD_54_1 => rfl
          case qD_54_1 => exact fun _ _ _ h => h
          case yD_54_1 => (intro w hSw; (try dsimp only at hSw); go_simp; try with_reducible rfl)
          try simp only [Act.put, List.setIfInBounds_toArray, List.set_cons_zero, List.set_cons_succ]
          refine wpAnyH_take (i := 2) (oi := ?oD_55_2) (v := ?vD_55_2) ?eD_55_2 (by kernel_rfl) (by kernel_rfl) (by kernel_rfl) ?qD_55_2 (Or.inl ⟨?wD_55_2, ?yD_55_2⟩) (by assumption) ?rD_55_2
          case eD_55_2 => simp only [List.getElem?_toArray, List.getElem?_cons_succ, List.getElem?_cons_zero]; rfl
          case wD_55_2 => rfl
          case qD_55_2 => exact fun _ _ _ h => h
          case yD_55_2 => (intro w hSw; (try dsimp only at hSw); go_simp; try with_reducible rfl)
          try simp only [Act.put, List.setIfInBounds_toArray, List.set_cons_zero, List.set_cons_succ]
          refine wpAnyH_take (i := 3) (oi := ?oD_56_3) (v := ?vD_56_3) ?eD_56_3 (by kernel_rfl) (by kernel_rfl) (by kernel_rfl) ?qD_56_3 (Or.inl ⟨?wD_56_3, ?yD_56_3⟩) (by assumption) ?rD_56_3
          case eD_56_3 => simp only [List.getElem?_toArray, List.getElem?_cons_succ, List.getElem?_cons_zero]; rfl
          case wD_56_3 => rfl
          case qD_56_3 => exact fun _ _ _ h => h
          case yD_56_3 => (intro w hSw; (try dsimp only at hSw); go_simp; try with_reducible rfl)
          try simp only [Act.put, List.setIfInBounds_toArray, List.set_cons_zero, List.set_cons_succ]
          refine wpAnyH_take (i := 4) (oi := ?oD_57_4) (v := ?vD_57_4) ?eD_57_4 (by kernel_rfl) (by kernel_rfl) (by kernel_rfl) ?qD_57_4 (Or.inl ⟨?wD_57_4, ?yD_57_4⟩) (by assumption) ?rD_57_4
          case eD_57_4 => simp only [List.getElem?_toArray, List.getElem?_cons_succ, List.getElem?_cons_zero]; rfl
          case wD_57_4 => rfl
          case qD_57_4 => exact fun _ _ _ h => h
          case yD_57_4 => (intro w hSw; (try dsimp only at hSw); go_simp; try with_reducible rfl)
          try simp only [Act.put, List.setIfInBounds_toArray, List.set_cons_zero, List.set_cons_succ]
          refine wpAnyH_take (i := 5) (oi := ?oD_58_5) (v := ?vD_58_5) ?eD_58_5 (by kernel_rfl) (by kernel_rfl) (by kernel_rfl) ?qD_58_5 (Or.inl ⟨?wD_58_5, ?yD_58_5⟩) (by assumption) ?rD_58_5
          case eD_58_5 => simp only [List.getElem?_toArray, List.getElem?_cons_succ, List.getElem?_cons_zero]; rfl
          case wD_58_5 => rfl
          case qD_58_5 => exact fun _ _ _ h => h
          case yD_58_5 => (intro w hSw; (try dsimp only at hSw); go_simp; try with_reducible rfl)
          try simp only [Act.put, List.setIfInBounds_toArray, List.set_cons_zero, List.set_cons_succ]
          refine wpAnyH_take (i := 6) (oi := ?oD_59_6) (v := ?vD_59_6) ?eD_59_6 (by kernel_rfl) (by kernel_rfl) (by kernel_rfl) ?qD_59_6 (Or.inl ⟨?wD_59_6, ?yD_59_6⟩) (by assumption) ?rD_59_6
          case eD_59_6 => simp only [List.getElem?_toArray, List.getElem?_cons_succ, List.getElem?_cons_zero]; rfl
          case wD_59_6 => rfl
          case qD_59_6 => exact fun _ _ _ h => h
          case yD_59_6 => (intro w hSw; (try dsimp only at hSw); go_simp; try with_reducible rfl)
          try simp only [Act.put, List.setIfInBounds_toArray, List.set_cons_zero, List.set_cons_succ]
          have hOld := hHeld
          clear hHeld
          refine wpAnyH_ready (rs := [7]) (by kernel_rfl) (by simp) ?_
          refine AllReadyH.cons (o := ?oD_60_7) ?eD_60_7 (fun K hK => ?_) AllReadyH.nil
          case eD_60_7 => simp only [List.getElem?_toArray, List.getElem?_cons_succ, List.getElem?_cons_zero]; rfl
          go_simp
          skip
          try go_wp2_with fail
          refine hK.out _ _ (HKP.out _ (Wrote.setCell (S := fun k => k = ob) W0 _ _ (.inl rfl))) (fun hHeld => ?_)
          clear hK hOld
          try simp only [Act.put, List.setIfInBounds_toArray, List.set_cons_zero, List.set_cons_succ]
          refine wpAnyH_take (i := 8) (oi := ?oD_61_8) (v := ?vD_61_8) ?eD_61_8 (by kernel_rfl) (by kernel_rfl) (by kernel_rfl) ?qD_61_8 (Or.inl ⟨?wD_61_8, ?yD_61_8⟩) (by assumption) ?rD_61_8
          case eD_61_8 => simp only [List.getElem?_toArray, List.getElem?_cons_succ, List.getElem?_cons_zero]; rfl
          case wD_61_8 => rfl
          case qD_61_8 => exact fun _ _ _ h => h
          case yD_61_8 => (intro w hSw; (try dsimp only at hSw); go_simp; try with_reducible rfl)
          try simp only [Act.put, List.setIfInBounds_toArray, List.set_cons_zero, List.set_cons_succ]
          have hOld := hHeld
          clear hHeld
          refine wpAnyH_ready (rs := [9]) (by kernel_rfl) (by simp) ?_
          refine AllReadyH.cons (o := ?oD_62_9) ?eD_62_9 (fun K hK => ?_) AllReadyH.nil
          case eD_62_9 => simp only [List.getElem?_toArray, List.getElem?_cons_succ, List.getElem?_cons_zero]; rfl
          go_simp
          skip
          try go_wp2_with fail
          refine hK.out _ _ (HKP.out _ (Wrote.setCell (S := fun k => k = ob) (Wrote.setCell (S := fun k => k = ob) W0 _ _ (.inl rfl)) _ _ (.inl rfl))) (fun hHeld => ?_)
          clear hK hOld
          try simp only [Act.put, List.setIfInBounds_toArray, List.set_cons_zero, List.set_cons_succ]
          refine wpAnyH_take (i := 10) (oi := ?oD_63_10) (v := ?vD_63_10) ?eD_63_10 (by kernel_rfl) (by kernel_rfl) (by kernel_rfl) ?qD_63_10 (Or.inl ⟨?wD_63_10, ?yD_63_10⟩) (by assumption) ?rD_63_10
          case eD_63_10 => simp only [List.getElem?_toArray, List.getElem?_cons_succ, List.getElem?_cons_zero]; rfl
          case wD_63_10 => rfl
          case qD_63_10 => exact fun _ _ _ h => h
          case yD_63_10 => (intro w hSw; (try dsimp only at hSw); go_simp; try with_reducible rfl)
          try simp only [Act.put, List.setIfInBounds_toArray, List.set_cons_zero, List.set_cons_succ]
          have hOld := hHeld
          clear hHeld
          refine wpAnyH_ready (rs := [11]) (by kernel_rfl) (by simp) ?_
          refine AllReadyH.cons (o := ?oD_64_11) ?eD_64_11 (fun K hK => ?_) AllReadyH.nil
          case eD_64_11 => simp only [List.getElem?_toArray, List.getElem?_cons_succ, List.getElem?_cons_zero]; rfl
          go_simp
          skip
          try go_wp2_with fail
          refine hK.out _ _ (HKP.out _ (Wrote.setCell (S := fun k => k = ob) (Wrote.setCell (S := fun k => k = ob) (Wrote.setCell (S := fun k => k = ob) W0 _ _ (.inl rfl)) _ _ (.inl rfl)) _ _ (.inl rfl))) (fun hHeld => ?_)
          clear hK hOld
          try simp only [Act.put, List.setIfInBounds_toArray, List.set_cons_zero, List.set_cons_succ]
          refine wpAnyH_done (by kernel_rfl) ?_ _
          clear o1 o2 o3 f1 f2 f3 hHeld HKP W0
          have HZ0 : Hid (RaCtx w b2 rb ob g cap v e (.slice da nd dc) (.slice aa i ac) (putsLs ls e.adds) wr.drew) := HY.out.below (below_drew (Below.refl _ _))
          have HZ := Lib.hid (HZ0.out.head (putsLs ls e.adds))
          clear HY HZ0
          go_upto_region 31 with fail
          refine wp_gen fun w6 hw6 => ?_
          have HZ6 : Hid (RaCtx w b2 rb ob g cap (putV ls e) e (.slice da nd dc) (.slice aa i ac) (putsLs ls e.adds) w6) := by rw [hw6]; exact HZ.out
          clear hw6 HZ
          have x0 : w6.cell? ⟨ob, 0, none⟩ = some (.slice (some ⟨g, 0, none⟩) 5 cap) := HZ6.out.out.cell rfl
          have x1 : w6.cell? ⟨ob, 1, none⟩ = some (.int .u64 e.next) := HZ6.out.out.cell rfl
          have x2 : w6.cell? ⟨ob, 2, none⟩ = some (.int .u64 e.seq) := HZ6.out.out.cell rfl
          have x3 : w6.cell? ⟨ob, 3, none⟩ = some (.int .u64 e.log) := HZ6.out.out.cell rfl
          have HCN : Hid (cntTo (putV ls e).levels (putV ls e).levels.length ≤ 1000000 - 1) := Nat.le_trans HS.out.cnt (by omega)
          have HPR := Lib.hid (fun ho => puts_res HC.out HDF.out (dropsLs_five HM.out HDF.out) HNC.out ho)
          go_wp2_with fail
          clear x0 x1 x2 x3
          refine Calls.mono (rcheck_any _ (putV ls e) (.slice (some ⟨g, 0, none⟩) 5 cap) w6 (HZ6.out.lv.rows HZ6.out.cap.1 HZ6.out.cap.2) ⟨HZ6.out.eat.next, HZ6.out.eat.seq, HZ6.out.eat.log⟩ HCN.out) ?_
          rintro _ w7 ⟨rfl, hb⟩
          have HZ7 := Lib.hid (HZ6.out.below hb)
          clear hb HZ6 HCN
          obtain ⟨cc, hcc⟩ : ∃ x, chkW (putV ls e) = x := ⟨_, rfl⟩
          rw [hcc] at HPR ⊢
          clear hcc
          obtain ⟨z0, z1, z2, z3, f0, f1, f2, f3⟩ := zero4_cells HZ7.out.res
          cases b with
          | true =>
            have HF : Hid (applyW v e = (zeroV, 2)) := applyW_odd HC.out HDF.out HNC.out (HOL.out.1 rfl)
            go_wp2_with fail
            refine bodyPost_ret (results_cell_tmp1 (p := 4) (t := 5) rfl _ _ rb 25 zero4 _ rfl (blk_zero4 HZ7.out.res) Try.underlying25 rfl (by kernel_rfl)) rfl ?_
            exact HZ7.out.bad HF.out
          | false =>
            have HPR2 := HPR.out (fun h => by have := HOL.out.2 h; cases this)
            by_cases hc0 : cc = 0
            · have HF : Hid (applyW v e = (putV ls e, 0)) := by show _ = _; rw [HPR2, if_pos hc0]
              subst hc0
              have o0 : w7.cell? ⟨ob, 0, none⟩ = some (.slice (some ⟨g, 0, none⟩) 5 cap) := HZ7.out.out.cell rfl
              have o1 : w7.cell? ⟨ob, 1, none⟩ = some (.int .u64 e.next) := HZ7.out.out.cell rfl
              have o2 : w7.cell? ⟨ob, 2, none⟩ = some (.int .u64 e.seq) := HZ7.out.out.cell rfl
              have o3 : w7.cell? ⟨ob, 3, none⟩ = some (.int .u64 e.log) := HZ7.out.out.cell rfl
              clear HPR HPR2
              go_wp2_with fail
              refine bodyPost_ret (results_cell_tmp1 (p := 4) (t := 5) rfl _ _ rb 25 (verCells (putV ls e) (.slice (some ⟨g, 0, none⟩) 5 cap)).toArray _ rfl ((((HZ7.out.res.set 0 _).set 1 _).set 2 _).set 3 _) Try.underlying25 rfl (by kernel_rfl)) rfl ?_
              exact HZ7.out.fin HF.out rfl _ _ _ _
            · have HF : Hid (applyW v e = (zeroV, cc)) := by show _ = _; rw [HPR2, if_neg hc0]
              have g0 : (cc == 0) = false := by simpa using hc0
              have g1 : (cc != 0) = true := by simpa using hc0
              clear HPR HPR2 hc0
              go_wp2_with fail
              refine bodyPost_ret (results_cell_tmp1 (p := 4) (t := 5) rfl _ _ rb 25 zero4 _ rfl (blk_zero4 HZ7.out.res) Try.underlying25 rfl (by kernel_rfl)) rfl ?_
              exact HZ7.out.bad HF.out
end Go.Proofs.Ytkcohhldmhdcfaa
