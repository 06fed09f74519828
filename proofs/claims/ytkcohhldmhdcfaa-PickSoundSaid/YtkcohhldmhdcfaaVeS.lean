/- Chapter 12: (*version.work).drop. -/
import Derived.Test.YtkcohhldmhdcfaaVeSa
import Derived.StillTailTactics
namespace Go.Proofs.Ytkcohhldmhdcfaa
open Go.RowKit

def numIs (n : Int) (f : Fil) : Bool := f.num == n
theorem FirstF.idx {p : Fil → Bool} {l : List Fil} {j : Nat} (h : FirstF p l j) : l.findIdx p = j := by
  by_cases hj : j < l.length
  · rw [List.findIdx_eq hj]
    refine ⟨by rw [fat_eq hj]; exact h.on hj, fun i hi => ?_⟩
    rw [fat_eq (by omega)]
    exact h.off i hi
  · have := h.le
    obtain rfl : j = l.length := by omega
    rw [List.findIdx_eq_length]
    intro x hx
    obtain ⟨i, hi, rfl⟩ := List.mem_iff_getElem.1 hx
    rw [fat_eq hi]
    exact h.off i hi
/-- A file of a number taken off a level. -/
def dropLs (ls : List (List Fil)) (lev num : Int) : Option (List (List Fil)) :=
  if 0 ≤ lev ∧ lev < 5 then
    if (lat ls lev.toNat).findIdx (numIs num) < (lat ls lev.toNat).length then some (ls.set lev.toNat ((lat ls lev.toNat).eraseIdx ((lat ls lev.toNat).findIdx (numIs num)))) else none
  else none

set_option maxRecDepth 100000 in
theorem drop1_any (F G : Nat → Prop) (f : Fil) (la : Option Addr) (lc : Nat) (ma : Option Addr) (mc : Nat) (_lev num : Int) (db : Nat) (w : World) (_hl : Bytes F w (.slice la f.least.length lc) f.least) (_hm : Bytes G w (.slice ma f.most.length mc) f.most) (hc : w.cell? ⟨db, 1, none⟩ = some (.int .u64 num)) :
    Calls Try.prog 106 #[.agg #[.int .u64 f.num, .int .i64 f.size, .slice la f.least.length lc, .slice ma f.most.length mc, .int .i64 f.ents, .int .u64 f.mseq], .pointer (some ⟨db, 0, none⟩)] w fun e w' => e = .returned (.bool (numIs num f)) ∧ Below w.heap.size w w' := by
  have HC := Lib.hid hc
  clear _hl _hm hc
  go_enter Try.func106, Try.ntmps106
  go_upto_region 1 with fail
  refine wp_gen fun w1 hw1 => ?_
  have HX1 : Hid (Blk w1 w.heap.size (filCells f (.slice la f.least.length lc) (.slice ma f.most.length mc)).toArray 42) := by rw [hw1]; exact Blk.at_new rfl rfl
  have HW1 : Hid (Below w.heap.size w w1) := by rw [hw1]; exact (Below.refl _ _).alloc (Nat.le_refl _) _
  have y1 : w1.cell? ⟨db, 1, none⟩ = some (.int .u64 num) := by rw [hw1]; exact Lib.cell?_alloc_some _ HC.out
  clear hw1
  have x0 : w1.cell? ⟨w.heap.size, 0, none⟩ = some (.int .u64 f.num) := HX1.out.cell rfl
  go_wp2_with fail
  go_ret
  exact ⟨rfl, HW1.out⟩
theorem drop1_bodied : Bodied 106 := fun _ _ => by kernel_rfl
theorem drop1_asks (lev num : Int) (db : Nat) (l : List Fil) (w : World) (hc : w.cell? ⟨db, 1, none⟩ = some (.int .u64 num)) (hb : db < w.heap.size) :
    Asks 106 #[.pointer (some ⟨db, 0, none⟩)] (numIs num) l w := fun f la lc ma mc x _ hx hl hm =>
  drop1_any _ _ f la lc ma mc lev num db x hl hm ((hx.cell (p := ⟨db, 1, none⟩) hb).trans hc)

def workCells (lv : Value) (nx sq lg : Int) : List Value := [lv, .int .u64 nx, .int .u64 sq, .int .u64 lg]
/-- A version that is worked on, in memory. -/
structure WorkAt (D E : Nat → Prop) (A wb g : Nat) (us : List Value) (files : List (List Fil)) (nx sq lg : Int) (w : World) : Prop where
  blk : Blk w wb (workCells (.slice (some ⟨g, 0, none⟩) 5 5) nx sq lg).toArray 98
  fl : Fw D E A w (.slice (some ⟨g, 0, none⟩) 5 5) us files
  five : us.length = 5
  out : ¬ D wb
  new : ∀ k, w.heap.size ≤ k → D k
  le : A ≤ w.heap.size
theorem WorkAt.keep {D E S : Nat → Prop} {A wb g : Nat} {us : List Value} {files : List (List Fil)} {nx sq lg : Int} {w w' : World} (h : WorkAt D E A wb g us files nx sq lg w) (hw : Wrote S w w') (hD : ∀ k, D k → ¬ S k) (hE : ∀ k, E k → ¬ S k) (hS : ¬ S wb) : WorkAt D E A wb g us files nx sq lg w' :=
  ⟨h.blk.same (hw.block _ h.blk.lt hS), h.fl.wrote hw hD hE, h.five, h.out, fun k hk => h.new k (Nat.le_trans hw.size hk), Nat.le_trans h.le hw.size⟩
theorem WorkAt.below {D E : Nat → Prop} {A wb g : Nat} {us : List Value} {files : List (List Fil)} {nx sq lg : Int} {w w' : World} (h : WorkAt D E A wb g us files nx sq lg w) (hw : Below w.heap.size w w') : WorkAt D E A wb g us files nx sq lg w' :=
  h.keep (S := fun _ => False) (Wrote.of_below hw) (fun _ _ => id) (fun _ _ => id) id
theorem WorkAt.drew {D E : Nat → Prop} {A wb g : Nat} {us : List Value} {files : List (List Fil)} {nx sq lg : Int} {w : World} (h : WorkAt D E A wb g us files nx sq lg w) : WorkAt D E A wb g us files nx sq lg w.drew := h.below (below_drew (Below.refl _ _))
theorem WorkAt.level {D E : Nat → Prop} {A wb g : Nat} {us : List Value} {files : List (List Fil)} {nx sq lg : Int} {w : World} (h : WorkAt D E A wb g us files nx sq lg w) {m : Nat} (hm : m < 5) :
    ∃ a c, uq us m = .slice a (lat files m).length c ∧ w.cell? ⟨g, m, none⟩ = some (.slice a (lat files m).length c) ∧ w.frozen? ⟨g, m, none⟩ = false ∧ ROwnF filK (fun k => E k ∧ Free (.slice (some ⟨g, 0, none⟩) 5 5) us k) A 42 w (.slice a (lat files m).length c) (lat files m) := by
  have h5 := h.five
  obtain ⟨g', c', e, _, _, hc, hf⟩ := vals_at h.fl.arr (by omega)
  injection e with e1 e2 e3
  injection e1 with e1
  injection e1 with e1
  subst e1
  have hr := h.fl.row m (by omega)
  have hl : files.getD m [] = lat files m := rfl
  rw [hl] at hr
  obtain ⟨a, c, e⟩ := hr.isSlice
  have hcm := hc m (by omega)
  rw [e] at hr hcm
  exact ⟨a, c, e, hcm, hf m, hr⟩

/-- What drop leaves. -/
def DropPost (D E : Nat → Prop) (A wb g : Nat) (files : List (List Fil)) (lev num nx sq lg : Int) (w : World) (e : Ending) (w' : World) : Prop :=
  match dropLs files lev num with
  | none => e = .returned (.bool false) ∧ Wrote D w w'
  | some files' => ∃ us', e = .returned (.bool true) ∧ WorkAt D E A wb g us' files' nx sq lg w' ∧ Wrote D w w'

set_option maxRecDepth 100000 in
set_option maxHeartbeats 8000000 in
theorem drop_any (D E : Nat → Prop) (A wb g : Nat) (us : List Value) (files : List (List Fil)) (lev num nx sq lg : Int) (w : World) (h : WorkAt D E A wb g us files nx sq lg w) (hlev : i64In lev) (hfew : ∀ i, i < 5 → (lat files i).length ≤ 100000) :
    Calls Try.prog 69 #[.pointer (some ⟨wb, 0, none⟩), .agg #[.int .i64 lev, .int .u64 num]] w (DropPost D E A wb g files lev num nx sq lg w) := by
  have HH := Lib.hid h
  have HFEW := Lib.hid hfew
  obtain ⟨hl1, hl2⟩ := hlev
  clear h hfew
  go_enter Try.func69, Try.ntmps69
  go_upto_region 1 with fail
  refine wp_gen fun w1 hw1 => ?_
  have HX1 : Hid (Blk w1 w.heap.size #[.int .i64 lev, .int .u64 num] 100) := by rw [hw1]; exact Blk.at_new rfl rfl
  have HW1 : Hid (Below w.heap.size w w1) := by rw [hw1]; exact (Below.refl _ _).alloc (Nat.le_refl _) _
  have HH1 : Hid (WorkAt D E A wb g us files nx sq lg w1) := HH.out.below HW1.out
  clear hw1
  have HDB : Hid (w.heap.size ≠ wb) := by
    have := HH.out.blk.lt
    show _ ≠ _
    omega
  have HWR : Hid (∀ w', Below w1.heap.size w1 w' → Wrote D w w') := fun w' hb => Wrote.of_below (HW1.out.trans (hb.mono HW1.out.size))
  have HUD : Hid (∀ m, m < 5 → (uq us m).ownBlock ≠ some w.heap.size) := fun m hm e => by
    have := ((HH.out.fl.row m (by have := HH.out.five; omega)).lt _ e).2
    omega
  have HGD : Hid (g ≠ w.heap.size) := by
    have := (HH.out.fl.lt g rfl).2
    show g ≠ _
    omega
  generalize hdb : w.heap.size = db at *
  clear hdb
  have y0 : w1.cell? ⟨wb, 0, none⟩ = some (.slice (some ⟨g, 0, none⟩) 5 5) := HH1.out.blk.cell rfl
  have x0 : w1.cell? ⟨db, 0, none⟩ = some (.int .i64 lev) := HX1.out.cell rfl
  by_cases hneg : lev < 0
  · have HP : Hid (dropLs files lev num = none) := by show _ = _; unfold dropLs; rw [if_neg (by omega)]
    have HQ : Hid (∀ n, DropPost D E A wb g files lev num nx sq lg w (.returned (.bool false)) (w1.drewN n)) := fun n => by unfold DropPost; rw [HP.out]; exact ⟨rfl, HWR.out _ (below_dn (Below.refl _ _) n)⟩
    go_wp2_with fail
    go_quiet (fail)
    all_goals
      go_wp2_with fail
      go_ret
      exact HQ.out _
  by_cases hbig : 5 ≤ lev
  · have HP : Hid (dropLs files lev num = none) := by show _ = _; unfold dropLs; rw [if_neg (by omega)]
    have HQ : Hid (∀ n, DropPost D E A wb g files lev num nx sq lg w (.returned (.bool false)) (w1.drewN n)) := fun n => by unfold DropPost; rw [HP.out]; exact ⟨rfl, HWR.out _ (below_dn (Below.refl _ _) n)⟩
    have t0 : decide (lev < 0) = false := decide_eq_false hneg
    go_wp2_with fail
    go_quiet (fail)
    all_goals
      go_wp2_with fail
      go_ret
      exact HQ.out _
  obtain ⟨m, rfl⟩ : ∃ m : Nat, lev = (m : Int) := ⟨lev.toNat, by omega⟩
  have hm5 : m < 5 := by omega
  have t0 : decide ((m : Int) < 0) = false := decide_eq_false hneg
  have t1 : decide ((5 : Int) ≤ (m : Int)) = false := decide_eq_false hbig
  have t1n : decide (5 ≤ m) = false := decide_eq_false (by omega)
  clear hneg hbig hl1 hl2
  go_wp2_with fail
  go_quiet (fail)
  all_goals
    go_wp2_with fail
    refine wp_gen fun w2 hw2 => ?_
    have HX2 : Hid (Blk w2.drew db #[.int .i64 (m : Int), .int .u64 num] 100) := by rw [hw2]; exact HX1.out
    have HH2 : Hid (WorkAt D E A wb g us files nx sq lg w2.drew) := by rw [hw2]; exact HH1.out.below (below_drew (below_dn (Below.refl _ _) _))
    have HW2 : Hid (Wrote D w w2.drew) := by rw [hw2]; exact HWR.out _ (below_drew (below_dn (Below.refl _ _) _))
    clear hw2 HX1 HH1 HW1 HWR y0 x0 t0 t1 t1n
    obtain ⟨ra, rc, hru, hcm, hfm, hrow⟩ := HH2.out.level hm5
    have HLE := Lib.hid (HFEW.out m hm5)
    obtain ⟨fs, hfs⟩ : ∃ fs, lat files m = fs := ⟨_, rfl⟩
    have HFS := Lib.hid hfs
    rw [hfs] at hru hcm hrow HLE
    obtain ⟨n, hn⟩ : ∃ n, fs.length = n := ⟨_, rfl⟩
    have HN := Lib.hid hn
    have HRU := Lib.hid hru
    rw [hn] at HLE HRU hcm hrow
    have HROW := Lib.hid hrow
    have HCM := Lib.hid hcm
    have HCF := Lib.hid hfm
    have hix := findex_any _ 106 #[.pointer (some ⟨db, 0, none⟩)] (numIs num) (.slice ra n rc) fs w2.drew hrow.rows (by rw [hn]; exact Nat.le_trans HLE.out (by omega)) (drop1_asks (m : Int) num db fs w2.drew (HX2.out.cell rfl) HX2.out.lt) drop1_bodied
    rw [hn] at hix
    have HIX := Lib.hid hix
    have y0 : w2.drew.cell? ⟨wb, 0, none⟩ = some (.slice (some ⟨g, 0, none⟩) 5 5) := HH2.out.blk.cell rfl
    have x0 : w2.drew.cell? ⟨db, 0, none⟩ = some (.int .i64 (m : Int)) := HX2.out.cell rfl
    have tm : (m : Int) < 5 := by omega
    clear hfs hn hru hrow hfm hix
    go_still_tail 10, (by kernel_rfl)
    change wpList _ _ _ _ _ w2.drew
    go_wp2_with fail
    refine Calls.mono HIX.out ?_
    rintro _ w3 ⟨j, hj, rfl, hb3⟩
    have HJ := Lib.hid hj
    have HX3 := Lib.hid (HX2.out.below hb3 HX2.out.lt)
    have HH3 := Lib.hid (HH2.out.below hb3)
    have HW3 : Hid (Wrote D w w3) := HW2.out.trans (Wrote.of_below hb3)
    have HCM3 : Hid (w3.cell? ⟨g, m, none⟩ = some (.slice ra n rc)) := (hb3.cell (p := ⟨g, m, none⟩) (World.block_lt_of_cell? _ _ hcm)).trans hcm
    have HCF3 : Hid (w3.frozen? ⟨g, m, none⟩ = false) := (hb3.frozen (p := ⟨g, m, none⟩) (World.block_lt_of_cell? _ _ hcm)).trans HCF.out
    have HROW3 := Lib.hid (HROW.out.below hb3)
    have HGL : Hid (g < w3.heap.size) := Nat.lt_of_lt_of_le (World.block_lt_of_cell? _ _ hcm) hb3.size
    clear hj hb3 hcm y0 x0 HIX HX2 HH2 HW2 HROW HCM HCF
    by_cases hjn : j < n
    case neg =>
      rw [if_neg hjn]
      have HQ : Hid (DropPost D E A wb g files (m : Int) num nx sq lg w (.returned (.bool false)) w3) := by
        have hp : dropLs files (m : Int) num = none := by
          unfold dropLs
          rw [if_pos (by omega), Int.toNat_natCast, HFS.out, HJ.out.idx, HN.out, if_neg hjn]
        unfold DropPost
        rw [hp]
        exact ⟨rfl, HW3.out⟩
      go_wp2_with fail
      go_ret
      exact HQ.out
    rw [if_pos hjn]
    have u0 : 0 ≤ (j : Int) := by omega
    have u1 : IntKind.i64.wrap ((j : Int) + 1) = (j : Int) + 1 := by have := HLE.out; rw [wrap_small (by omega) (by omega)]
    obtain ⟨fs', hfs'⟩ : ∃ fs', fs.eraseIdx j = fs' := ⟨_, rfl⟩
    have HFS' := Lib.hid hfs'
    have hdel := (fdel_any _ A (.slice ra n rc) fs j w3.drew (HROW3.out.below (below_drew (Below.refl _ _))) (by rw [HN.out]; exact hjn) (by rw [HN.out]; have := HLE.out; omega))
    rw [hfs'] at hdel
    have HDEL := Lib.hid hdel
    have HJN := Lib.hid hjn
    clear hfs' hdel
    have y0 : w3.drew.cell? ⟨wb, 0, none⟩ = some (.slice (some ⟨g, 0, none⟩) 5 5) := HH3.out.blk.cell rfl
    have x0 : w3.drew.cell? ⟨db, 0, none⟩ = some (.int .i64 (m : Int)) := HX3.out.cell rfl
    have k0 : w3.drew.cell? ⟨g, m, none⟩ = some (.slice ra n rc) := HCM3.out
    have HU5 : Hid (m < us.length) := by have := HH3.out.five; show _ < _; omega
    clear hjn
    go_wp2_with fail
    have HKEEP : Hid (∀ (w : World) (u : Value), w.cell? ⟨wb, 0, none⟩ = some (.slice (some ⟨g, 0, none⟩) 5 5) → w.cell? ⟨db, 0, none⟩ = some (.int .i64 (m : Int)) → (w.setCell ⟨g, m, none⟩ u).cell? ⟨wb, 0, none⟩ = some (.slice (some ⟨g, 0, none⟩) 5 5) ∧ (w.setCell ⟨g, m, none⟩ u).cell? ⟨db, 0, none⟩ = some (.int .i64 (m : Int))) := fun w u h1 h2 =>
      ⟨(World.cell?_setCell_other _ _ _ _ (fun e => HH3.out.out (by injection e with e; rw [← e]; exact HH3.out.fl.da g rfl))).trans h1, (World.cell?_setCell_other _ _ _ _ (fun e => HGD.out (by injection e))).trans h2⟩
    refine wp_region_held_drew (S := fun w' => w'.cell? ⟨wb, 0, none⟩ = some (.slice (some ⟨g, 0, none⟩) 5 5) ∧ w'.cell? ⟨db, 0, none⟩ = some (.int .i64 (m : Int))) (by kernel_rfl) (⟨y0, x0⟩) (fun hHeld => ?_)
    refine wpAnyH_take (i := 0) (oi := ?oR_0) (v := ?vR_0) ?eR_0 (by kernel_rfl) (by kernel_rfl) (by kernel_rfl) ?qR_0 (Or.inl ⟨?wR_0, ?yR_0⟩) (by assumption) ?rR_0
    case eR_0 => simp only [List.getElem?_toArray, List.getElem?_cons_zero]; rfl
    case wR_0 => rfl
    case qR_0 => exact fun _ _ _ h => h
    case yR_0 => (intro w hSw; (try dsimp only at hSw); go_simp; try with_reducible rfl)
    try simp only [Act.put, List.setIfInBounds_toArray, List.set_cons_zero, List.set_cons_succ]
    refine wpAnyH_take (i := 1) (oi := ?oR_1) (v := ?vR_1) ?eR_1 (by kernel_rfl) (by kernel_rfl) (by kernel_rfl) ?qR_1 (Or.inl ⟨?wR_1, ?yR_1⟩) (by assumption) ?rR_1
    case eR_1 => simp only [List.getElem?_toArray, List.getElem?_cons_succ, List.getElem?_cons_zero]; rfl
    case wR_1 => rfl
    case qR_1 => exact fun _ _ _ h => h
    case yR_1 => (intro w hSw; (try dsimp only at hSw); go_simp; try with_reducible rfl)
    try simp only [Act.put, List.setIfInBounds_toArray, List.set_cons_zero, List.set_cons_succ]
    refine wpAnyH_take (i := 2) (oi := ?oR_2) (v := ?vR_2) ?eR_2 (by kernel_rfl) (by kernel_rfl) (by kernel_rfl) ?qR_2 (Or.inl ⟨?wR_2, ?yR_2⟩) (by assumption) ?rR_2
    case eR_2 => simp only [List.getElem?_toArray, List.getElem?_cons_succ, List.getElem?_cons_zero]; rfl
    case wR_2 => rfl
    case qR_2 => exact fun _ _ _ h => h
    case yR_2 => (intro w hSw; (try dsimp only at hSw); go_simp; try with_reducible rfl)
    try simp only [Act.put, List.setIfInBounds_toArray, List.set_cons_zero, List.set_cons_succ]
    refine wpAnyH_take (i := 3) (oi := ?oR_3) (v := ?vR_3) ?eR_3 (by kernel_rfl) (by kernel_rfl) (by kernel_rfl) ?qR_3 (Or.inl ⟨?wR_3, ?yR_3⟩) (by assumption) ?rR_3
    case eR_3 => simp only [List.getElem?_toArray, List.getElem?_cons_succ, List.getElem?_cons_zero]; rfl
    case wR_3 => rfl
    case qR_3 => exact fun _ _ _ h => h
    case yR_3 => (intro w hSw; (try dsimp only at hSw); go_simp; try with_reducible rfl)
    try simp only [Act.put, List.setIfInBounds_toArray, List.set_cons_zero, List.set_cons_succ]
    refine wpAnyH_take (i := 4) (oi := ?oR_4) (v := ?vR_4) ?eR_4 (by kernel_rfl) (by kernel_rfl) (by kernel_rfl) ?qR_4 (Or.inl ⟨?wR_4, ?yR_4⟩) (by assumption) ?rR_4
    case eR_4 => simp only [List.getElem?_toArray, List.getElem?_cons_succ, List.getElem?_cons_zero]; rfl
    case wR_4 => rfl
    case qR_4 => exact fun _ _ _ h => h
    case yR_4 => (intro w hSw; (try dsimp only at hSw); go_simp; try with_reducible rfl)
    try simp only [Act.put, List.setIfInBounds_toArray, List.set_cons_zero, List.set_cons_succ]
    refine wpAnyH_take (i := 5) (oi := ?oR_5) (v := ?vR_5) ?eR_5 (by kernel_rfl) (by kernel_rfl) (by kernel_rfl) ?qR_5 (Or.inl ⟨?wR_5, ?yR_5⟩) (by assumption) ?rR_5
    case eR_5 => simp only [List.getElem?_toArray, List.getElem?_cons_succ, List.getElem?_cons_zero]; rfl
    case wR_5 => rfl
    case qR_5 => exact fun _ _ _ h => h
    case yR_5 => (intro w hSw; (try dsimp only at hSw); go_simp; try with_reducible rfl)
    try simp only [Act.put, List.setIfInBounds_toArray, List.set_cons_zero, List.set_cons_succ]
    refine wpAnyH_take (i := 6) (oi := ?oR_6) (v := ?vR_6) ?eR_6 (by kernel_rfl) (by kernel_rfl) (by kernel_rfl) ?qR_6 (Or.inl ⟨?wR_6, ?yR_6⟩) (by assumption) ?rR_6
    case eR_6 => simp only [List.getElem?_toArray, List.getElem?_cons_succ, List.getElem?_cons_zero]; rfl
    case wR_6 => rfl
    case qR_6 => exact fun _ _ _ h => h
    case yR_6 => (intro w hSw; (try dsimp only at hSw); go_simp; try with_reducible rfl)
    try simp only [Act.put, List.setIfInBounds_toArray, List.set_cons_zero, List.set_cons_succ]
    refine wpAnyH_take (i := 7) (oi := ?oR_7) (v := ?vR_7) ?eR_7 (by kernel_rfl) (by kernel_rfl) (by kernel_rfl) ?qR_7 (Or.inl ⟨?wR_7, ?yR_7⟩) (by assumption) ?rR_7
    case eR_7 => simp only [List.getElem?_toArray, List.getElem?_cons_succ, List.getElem?_cons_zero]; rfl
    case wR_7 => rfl
    case qR_7 => exact fun _ _ _ h => h
    case yR_7 => (intro w hSw; (try dsimp only at hSw); go_simp; try with_reducible rfl)
    try simp only [Act.put, List.setIfInBounds_toArray, List.set_cons_zero, List.set_cons_succ]
    refine wpAnyH_take (i := 8) (oi := ?oR_8) (v := ?vR_8) ?eR_8 (by kernel_rfl) (by kernel_rfl) (by kernel_rfl) ?qR_8 (Or.inl ⟨?wR_8, ?yR_8⟩) (by assumption) ?rR_8
    case eR_8 => simp only [List.getElem?_toArray, List.getElem?_cons_succ, List.getElem?_cons_zero]; rfl
    case wR_8 => rfl
    case qR_8 => exact fun _ _ _ h => h
    case yR_8 => (intro w hSw; (try dsimp only at hSw); go_simp; try with_reducible rfl)
    try simp only [Act.put, List.setIfInBounds_toArray, List.set_cons_zero, List.set_cons_succ]
    refine wpAnyH_take (i := 9) (oi := ?oR_9) (v := ?vR_9) ?eR_9 (by kernel_rfl) (by kernel_rfl) (by kernel_rfl) ?qR_9 (Or.inl ⟨?wR_9, ?yR_9⟩) (by assumption) ?rR_9
    case eR_9 => simp only [List.getElem?_toArray, List.getElem?_cons_succ, List.getElem?_cons_zero]; rfl
    case wR_9 => rfl
    case qR_9 => exact fun _ _ _ h => h
    case yR_9 => (intro w hSw; (try dsimp only at hSw); go_simp; try with_reducible rfl)
    try simp only [Act.put, List.setIfInBounds_toArray, List.set_cons_zero, List.set_cons_succ]
    refine wpAnyH_take (i := 10) (oi := ?oR_10) (v := ?vR_10) ?eR_10 (by kernel_rfl) (by kernel_rfl) (by kernel_rfl) ?qR_10 (Or.inl ⟨?wR_10, ?yR_10⟩) (by assumption) ?rR_10
    case eR_10 => simp only [List.getElem?_toArray, List.getElem?_cons_succ, List.getElem?_cons_zero]; rfl
    case wR_10 => rfl
    case qR_10 => exact fun _ _ _ h => h
    case yR_10 => (intro w hSw; (try dsimp only at hSw); go_simp; try with_reducible rfl)
    try simp only [Act.put, List.setIfInBounds_toArray, List.set_cons_zero, List.set_cons_succ]
    refine wpAnyH_take (i := 11) (oi := ?oR_11) (v := ?vR_11) ?eR_11 (by kernel_rfl) (by kernel_rfl) (by kernel_rfl) ?qR_11 (Or.inl ⟨?wR_11, ?yR_11⟩) (by assumption) ?rR_11
    case eR_11 => simp only [List.getElem?_toArray, List.getElem?_cons_succ, List.getElem?_cons_zero]; rfl
    case wR_11 => rfl
    case qR_11 => exact fun _ _ _ h => h
    case yR_11 => (intro w hSw; (try dsimp only at hSw); go_simp; try with_reducible rfl)
    try simp only [Act.put, List.setIfInBounds_toArray, List.set_cons_zero, List.set_cons_succ]
    refine wpAnyH_take (i := 12) (oi := ?oR_12) (v := ?vR_12) ?eR_12 (by kernel_rfl) (by kernel_rfl) (by kernel_rfl) ?qR_12 (Or.inl ⟨?wR_12, ?yR_12⟩) (by assumption) ?rR_12
    case eR_12 => simp only [List.getElem?_toArray, List.getElem?_cons_succ, List.getElem?_cons_zero]; rfl
    case wR_12 => rfl
    case qR_12 => exact fun _ _ _ h => h
    case yR_12 => (intro w hSw; (try dsimp only at hSw); go_simp; try with_reducible rfl)
    try simp only [Act.put, List.setIfInBounds_toArray, List.set_cons_zero, List.set_cons_succ]
    refine wpAnyH_take (i := 13) (oi := ?oR_13) (v := ?vR_13) ?eR_13 (by kernel_rfl) (by kernel_rfl) (by kernel_rfl) ?qR_13 (Or.inl ⟨?wR_13, ?yR_13⟩) (by assumption) ?rR_13
    case eR_13 => simp only [List.getElem?_toArray, List.getElem?_cons_succ, List.getElem?_cons_zero]; rfl
    case wR_13 => rfl
    case qR_13 => exact fun _ _ _ h => h
    case yR_13 => (intro w hSw; (try dsimp only at hSw); go_simp; try with_reducible rfl)
    try simp only [Act.put, List.setIfInBounds_toArray, List.set_cons_zero, List.set_cons_succ]
    refine wpAnyH_take (i := 14) (oi := ?oR_14) (v := ?vR_14) ?eR_14 (by kernel_rfl) (by kernel_rfl) (by kernel_rfl) ?qR_14 (Or.inl ⟨?wR_14, ?yR_14⟩) (by assumption) ?rR_14
    case eR_14 => simp only [List.getElem?_toArray, List.getElem?_cons_succ, List.getElem?_cons_zero]; rfl
    case wR_14 => rfl
    case qR_14 => exact fun _ _ _ h => h
    case yR_14 => (intro w hSw; (try dsimp only at hSw); go_simp; try with_reducible rfl)
    try simp only [Act.put, List.setIfInBounds_toArray, List.set_cons_zero, List.set_cons_succ]
    refine wpAnyH_take (i := 16) (oi := ?oR_16) (v := ?vR_16) ?eR_16 (by kernel_rfl) (by kernel_rfl) (by kernel_rfl) ?qR_16 (Or.inl ⟨?wR_16, ?yR_16⟩) (by assumption) ?rR_16
    case eR_16 => simp only [List.getElem?_toArray, List.getElem?_cons_succ, List.getElem?_cons_zero]; rfl
    case wR_16 => rfl
    case qR_16 => exact fun _ _ _ h => h
    case yR_16 => (intro w hSw; (try dsimp only at hSw); go_simp; try with_reducible rfl)
    try simp only [Act.put, List.setIfInBounds_toArray, List.set_cons_zero, List.set_cons_succ]
    refine wpAnyH_take (i := 17) (oi := ?oR_17) (v := ?vR_17) ?eR_17 (by kernel_rfl) (by kernel_rfl) (by kernel_rfl) ?qR_17 (Or.inl ⟨?wR_17, ?yR_17⟩) (by assumption) ?rR_17
    case eR_17 => simp only [List.getElem?_toArray, List.getElem?_cons_succ, List.getElem?_cons_zero]; rfl
    case wR_17 => rfl
    case qR_17 => exact fun _ _ _ h => h
    case yR_17 => (intro w hSw; (try dsimp only at hSw); go_simp; try with_reducible rfl)
    try simp only [Act.put, List.setIfInBounds_toArray, List.set_cons_zero, List.set_cons_succ]
    refine wpAnyH_take (i := 18) (oi := ?oR_18) (v := ?vR_18) ?eR_18 (by kernel_rfl) (by kernel_rfl) (by kernel_rfl) ?qR_18 (Or.inl ⟨?wR_18, ?yR_18⟩) (by assumption) ?rR_18
    case eR_18 => simp only [List.getElem?_toArray, List.getElem?_cons_succ, List.getElem?_cons_zero]; rfl
    case wR_18 => rfl
    case qR_18 => exact fun _ _ _ h => h
    case yR_18 => (intro w hSw; (try dsimp only at hSw); go_simp; try with_reducible rfl)
    try simp only [Act.put, List.setIfInBounds_toArray, List.set_cons_zero, List.set_cons_succ]
    refine wpAnyH_ready (rs := [15]) (by kernel_rfl) (by simp) ?_
    refine AllReadyH.cons (o := ?oR_15) ?eR_15 (fun K hK => ?_) AllReadyH.nil
    case eR_15 => simp only [List.getElem?_toArray, List.getElem?_cons_succ, List.getElem?_cons_zero]; rfl
    go_simp
    skip
    try go_wp2_with fail
    refine hK.out _ _ (hHeld) (fun hHeld => ?_)
    clear hK
    try simp only [Act.put, List.setIfInBounds_toArray, List.set_cons_zero, List.set_cons_succ]
    refine wpAnyH_ready (rs := [19]) (by kernel_rfl) (by simp) ?_
    refine AllReadyH.cons (o := ?oR_19) ?eR_19 (fun K hK => ?_) AllReadyH.nil
    case eR_19 => simp only [List.getElem?_toArray, List.getElem?_cons_succ, List.getElem?_cons_zero]; rfl
    go_simp
    (go_at_call 107; refine Calls.mono HDEL.out ?_; rintro _ w4 ⟨v4, rfl, ho4, hg4⟩; obtain ⟨a4, c4, rfl⟩ := ho4.isSlice; have z1 : w4.heap[wb]? = w3.heap[wb]? := hg4.grown.block wb HH3.out.blk.lt (fun e => HH3.out.out (HH3.out.fl.dr m wb HU5.out (by rw [HRU.out]; exact e.symm))); have z2 : w4.heap[db]? = w3.heap[db]? := hg4.grown.block db HX3.out.lt (fun e => HUD.out m hm5 (by rw [HRU.out]; exact e.symm)); have z3 : w4.heap[g]? = w3.heap[g]? := hg4.grown.block g HGL.out (fun e => HH3.out.fl.ne m g HU5.out (by rw [HRU.out]; exact e.symm) rfl); have y4 : w4.cell? ⟨wb, 0, none⟩ = some (.slice (some ⟨g, 0, none⟩) 5 5) := (World.cell?_of_block (w := w3) z1).trans (HH3.out.blk.cell rfl); have x4 : w4.cell? ⟨db, 0, none⟩ = some (.int .i64 (m : Int)) := (World.cell?_of_block (w := w3) z2).trans (HX3.out.cell rfl); have k4 : w4.cell? ⟨g, m, none⟩ = some (.slice ra n rc) := (World.cell?_of_block (w := w3) z3).trans HCM3.out; have f4 : w4.frozen? ⟨g, m, none⟩ = false := (frozen_of_block (w := w3) z3).trans HCF3.out; clear z1 z2 z3)
    try go_wp2_with fail
    refine hK.out _ _ (⟨y4, x4⟩) (fun hHeld => ?_)
    clear hK
    try simp only [Act.put, List.setIfInBounds_toArray, List.set_cons_zero, List.set_cons_succ]
    refine wpAnyH_take (i := 20) (oi := ?oR_20) (v := ?vR_20) ?eR_20 (by kernel_rfl) (by kernel_rfl) (by kernel_rfl) ?qR_20 (Or.inl ⟨?wR_20, ?yR_20⟩) (by assumption) ?rR_20
    case eR_20 => simp only [List.getElem?_toArray, List.getElem?_cons_succ, List.getElem?_cons_zero]; rfl
    case wR_20 => rfl
    case qR_20 => exact fun _ _ _ h => h
    case yR_20 => (intro w hSw; (try dsimp only at hSw); go_simp; try with_reducible rfl)
    try simp only [Act.put, List.setIfInBounds_toArray, List.set_cons_zero, List.set_cons_succ]
    refine wpAnyH_ready (rs := [21]) (by kernel_rfl) (by simp) ?_
    refine AllReadyH.cons (o := ?oR_21) ?eR_21 (fun K hK => ?_) AllReadyH.nil
    case eR_21 => simp only [List.getElem?_toArray, List.getElem?_cons_succ, List.getElem?_cons_zero]; rfl
    go_simp
    skip
    try go_wp2_with fail
    refine hK.out _ _ (HKEEP.out w4 _ y4 x4) (fun hHeld => ?_)
    clear hK
    try simp only [Act.put, List.setIfInBounds_toArray, List.set_cons_zero, List.set_cons_succ]
    refine wpAnyH_done (by kernel_rfl) ?_ _
    have HP : Hid (DropPost D E A wb g files (m : Int) num nx sq lg w (.returned (.bool true)) (w4.setCell ⟨g, m, none⟩ (.slice a4 fs'.length c4))) := by
      have hp : dropLs files (m : Int) num = some (files.set m fs') := by
        unfold dropLs
        rw [if_pos (by omega), Int.toNat_natCast, HFS.out, HJ.out.idx, HN.out, if_pos HJN.out, HFS'.out]
      have hg5 := HH3.out.five
      have hww : Wrote D w3.drew (w4.setCell ⟨g, m, none⟩ (.slice a4 fs'.length c4)) :=
        Wrote.setCell ⟨hg4.grown.os, hg4.grown.tape, hg4.grown.output, hg4.grown.size, fun k hk hn => hg4.grown.block k hk fun e => hn (HH3.out.fl.dr m k HU5.out (by rw [HRU.out]; exact e.symm))⟩ _ _ (.inl (HH3.out.fl.da g rfl))
      have h3 := HH3.out.drew
      have hfl := h3.fl
      rw [← hg5] at hfl
      have hlast := Fw.last (m := m) (u' := .slice a4 fs'.length c4) (cur := fs') (w' := w4) hfl HU5.out (by rw [hg5]; exact ho4) (by rw [HRU.out]; exact hg4) rfl fun k hk => HH3.out.new k hk
      rw [hg5] at hlast
      unfold DropPost
      rw [hp]
      refine ⟨us.set m (.slice a4 fs'.length c4), rfl, ⟨h3.blk.same (hww.block _ h3.blk.lt h3.out), hlast, by rw [List.length_set]; exact hg5, h3.out, fun k hk => h3.new k (Nat.le_trans hww.size hk), Nat.le_trans h3.le hww.size⟩, HW3.out.trans ?_⟩
      exact (Wrote.of_below (below_drew (Below.refl _ _))).trans hww
    clear ho4 hg4 y4 x4 k4 f4 hHeld
    go_wp2_with fail
    go_ret
    exact HP.out
end Go.Proofs.Ytkcohhldmhdcfaa
