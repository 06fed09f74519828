/- Chapter 12: (*version.work).drop. Chapter 12: (*version.work).has. Chapter 12: (*version.work).add. Chapter 12: (*version.work).add, the walk. -/
import Derived.Test.YtkcohhldmhdcfaaVzVePa
import Derived.StillTailTactics
import Derived.Laws.EntriesVeiled
namespace Go.Proofs.Ytkcohhldmhdcfaa
open Go.RowKit

def numIs (n : Int) (f : Fil) : Bool := f.num == n
theorem FirstF.idx {p : Fil → Bool} {l : List Fil} {j : Nat} (h : FirstF p l j) : l.findIdx p = j := by
  by_cases hj : j < l.length
  · rw [List.findIdx_eq hj]
    refine ⟨by rw [fat_eq hj]; exact h.on hj, fun i hi => ?_⟩
    rw [fat_eq (by omega)]
    exact h.off i hi
  · have := h.le
    obtain rfl : j = l.length := by omega
    rw [List.findIdx_eq_length]
    intro x hx
    obtain ⟨i, hi, rfl⟩ := List.mem_iff_getElem.1 hx
    rw [fat_eq hi]
    exact h.off i hi
/-- A file of a number taken off a level. -/
def dropLs (ls : List (List Fil)) (lev num : Int) : Option (List (List Fil)) :=
  if 0 ≤ lev ∧ lev < 5 then
    if (lat ls lev.toNat).findIdx (numIs num) < (lat ls lev.toNat).length then some (ls.set lev.toNat ((lat ls lev.toNat).eraseIdx ((lat ls lev.toNat).findIdx (numIs num)))) else none
  else none

set_option maxRecDepth 100000 in
theorem drop1_any (F G : Nat → Prop) (f : Fil) (la : Option Addr) (lc : Nat) (ma : Option Addr) (mc : Nat) (_lev num : Int) (db : Nat) (w : World) (_hl : Bytes F w (.slice la f.least.length lc) f.least) (_hm : Bytes G w (.slice ma f.most.length mc) f.most) (hc : w.cell? ⟨db, 1, none⟩ = some (.int .u64 num)) :
    Calls Try.prog 106 #[.agg #[.int .u64 f.num, .int .i64 f.size, .slice la f.least.length lc, .slice ma f.most.length mc, .int .i64 f.ents, .int .u64 f.mseq], .pointer (some ⟨db, 0, none⟩)] w fun e w' => e = .returned (.bool (numIs num f)) ∧ Below w.heap.size w w' := by
  have HC := Lib.hid hc
  clear _hl _hm hc
  go_enter Try.func106, Try.ntmps106
  go_upto_region 1 with fail
  refine wp_gen fun w1 hw1 => ?_
  have HX1 : Hid (Blk w1 w.heap.size (filCells f (.slice la f.least.length lc) (.slice ma f.most.length mc)).toArray 42) := by rw [hw1]; exact Blk.at_new rfl rfl
  have HW1 : Hid (Below w.heap.size w w1) := by rw [hw1]; exact (Below.refl _ _).alloc (Nat.le_refl _) _
  have y1 : w1.cell? ⟨db, 1, none⟩ = some (.int .u64 num) := by rw [hw1]; exact Lib.cell?_alloc_some _ HC.out
  clear hw1
  have x0 : w1.cell? ⟨w.heap.size, 0, none⟩ = some (.int .u64 f.num) := HX1.out.cell rfl
  go_wp2_with fail
  go_ret
  exact ⟨rfl, HW1.out⟩
theorem drop1_bodied : Bodied 106 := fun _ _ => by kernel_rfl
theorem drop1_asks (lev num : Int) (db : Nat) (l : List Fil) (w : World) (hc : w.cell? ⟨db, 1, none⟩ = some (.int .u64 num)) (hb : db < w.heap.size) :
    Asks 106 #[.pointer (some ⟨db, 0, none⟩)] (numIs num) l w := fun f la lc ma mc x _ hx hl hm =>
  drop1_any _ _ f la lc ma mc lev num db x hl hm ((hx.cell (p := ⟨db, 1, none⟩) hb).trans hc)

def workCells (lv : Value) (nx sq lg : Int) : List Value := [lv, .int .u64 nx, .int .u64 sq, .int .u64 lg]
/-- A version that is worked on, in memory. -/
structure WorkAt (D E : Nat → Prop) (A wb g : Nat) (us : List Value) (files : List (List Fil)) (nx sq lg : Int) (w : World) : Prop where
  blk : Blk w wb (workCells (.slice (some ⟨g, 0, none⟩) 5 5) nx sq lg).toArray 98
  fl : Fw D E A w (.slice (some ⟨g, 0, none⟩) 5 5) us files
  five : us.length = 5
  out : ¬ D wb
  new : ∀ k, w.heap.size ≤ k → D k
  le : A ≤ w.heap.size
theorem WorkAt.keep {D E S : Nat → Prop} {A wb g : Nat} {us : List Value} {files : List (List Fil)} {nx sq lg : Int} {w w' : World} (h : WorkAt D E A wb g us files nx sq lg w) (hw : Wrote S w w') (hD : ∀ k, D k → ¬ S k) (hE : ∀ k, E k → ¬ S k) (hS : ¬ S wb) : WorkAt D E A wb g us files nx sq lg w' :=
  ⟨h.blk.same (hw.block _ h.blk.lt hS), h.fl.wrote hw hD hE, h.five, h.out, fun k hk => h.new k (Nat.le_trans hw.size hk), Nat.le_trans h.le hw.size⟩
theorem WorkAt.below {D E : Nat → Prop} {A wb g : Nat} {us : List Value} {files : List (List Fil)} {nx sq lg : Int} {w w' : World} (h : WorkAt D E A wb g us files nx sq lg w) (hw : Below w.heap.size w w') : WorkAt D E A wb g us files nx sq lg w' :=
  h.keep (S := fun _ => False) (Wrote.of_below hw) (fun _ _ => id) (fun _ _ => id) id
theorem WorkAt.drew {D E : Nat → Prop} {A wb g : Nat} {us : List Value} {files : List (List Fil)} {nx sq lg : Int} {w : World} (h : WorkAt D E A wb g us files nx sq lg w) : WorkAt D E A wb g us files nx sq lg w.drew := h.below (below_drew (Below.refl _ _))
theorem WorkAt.level {D E : Nat → Prop} {A wb g : Nat} {us : List Value} {files : List (List Fil)} {nx sq lg : Int} {w : World} (h : WorkAt D E A wb g us files nx sq lg w) {m : Nat} (hm : m < 5) :
    ∃ a c, uq us m = .slice a (lat files m).length c ∧ w.cell? ⟨g, m, none⟩ = some (.slice a (lat files m).length c) ∧ w.frozen? ⟨g, m, none⟩ = false ∧ ROwnF filK (fun k => E k ∧ Free (.slice (some ⟨g, 0, none⟩) 5 5) us k) A 42 w (.slice a (lat files m).length c) (lat files m) := by
  have h5 := h.five
  obtain ⟨g', c', e, _, _, hc, hf⟩ := vals_at h.fl.arr (by omega)
  injection e with e1 e2 e3
  injection e1 with e1
  injection e1 with e1
  subst e1
  have hr := h.fl.row m (by omega)
  have hl : files.getD m [] = lat files m := rfl
  rw [hl] at hr
  obtain ⟨a, c, e⟩ := hr.isSlice
  have hcm := hc m (by omega)
  rw [e] at hr hcm
  exact ⟨a, c, e, hcm, hf m, hr⟩

/-- What drop leaves. -/
def DropPost (D E : Nat → Prop) (A wb g : Nat) (files : List (List Fil)) (lev num nx sq lg : Int) (w : World) (e : Ending) (w' : World) : Prop :=
  match dropLs files lev num with
  | none => e = .returned (.bool false) ∧ Wrote D w w'
  | some files' => ∃ us', e = .returned (.bool true) ∧ WorkAt D E A wb g us' files' nx sq lg w' ∧ Wrote D w w'

set_option maxRecDepth 100000 in
set_option maxHeartbeats 8000000 in
theorem drop_any (D E : Nat → Prop) (A wb g : Nat) (us : List Value) (files : List (List Fil)) (lev num nx sq lg : Int) (w : World) (h : WorkAt D E A wb g us files nx sq lg w) (hlev : i64In lev) (hfew : ∀ i, i < 5 → (lat files i).length ≤ 100000) :
    Calls Try.prog 69 #[.pointer (some ⟨wb, 0, none⟩), .agg #[.int .i64 lev, .int .u64 num]] w (DropPost D E A wb g files lev num nx sq lg w) := by
  have HH := Lib.hid h
  have HFEW := Lib.hid hfew
  obtain ⟨hl1, hl2⟩ := hlev
  clear h hfew
  go_enter Try.func69, Try.ntmps69
  go_upto_region 1 with fail
  refine wp_gen fun w1 hw1 => ?_
  have HX1 : Hid (Blk w1 w.heap.size #[.int .i64 lev, .int .u64 num] 100) := by rw [hw1]; exact Blk.at_new rfl rfl
  have HW1 : Hid (Below w.heap.size w w1) := by rw [hw1]; exact (Below.refl _ _).alloc (Nat.le_refl _) _
  have HH1 : Hid (WorkAt D E A wb g us files nx sq lg w1) := HH.out.below HW1.out
  clear hw1
  have HDB : Hid (w.heap.size ≠ wb) := by
    have := HH.out.blk.lt
    show _ ≠ _
    omega
  have HWR : Hid (∀ w', Below w1.heap.size w1 w' → Wrote D w w') := fun w' hb => Wrote.of_below (HW1.out.trans (hb.mono HW1.out.size))
  have HUD : Hid (∀ m, m < 5 → (uq us m).ownBlock ≠ some w.heap.size) := fun m hm e => by
    have := ((HH.out.fl.row m (by have := HH.out.five; omega)).lt _ e).2
    omega
  have HGD : Hid (g ≠ w.heap.size) := by
    have := (HH.out.fl.lt g rfl).2
    show g ≠ _
    omega
  generalize hdb : w.heap.size = db at *
  clear hdb
  have y0 : w1.cell? ⟨wb, 0, none⟩ = some (.slice (some ⟨g, 0, none⟩) 5 5) := HH1.out.blk.cell rfl
  have x0 : w1.cell? ⟨db, 0, none⟩ = some (.int .i64 lev) := HX1.out.cell rfl
  by_cases hneg : lev < 0
  · have HP : Hid (dropLs files lev num = none) := by show _ = _; unfold dropLs; rw [if_neg (by omega)]
    have HQ : Hid (∀ n, DropPost D E A wb g files lev num nx sq lg w (.returned (.bool false)) (w1.drewN n)) := fun n => by unfold DropPost; rw [HP.out]; exact ⟨rfl, HWR.out _ (below_dn (Below.refl _ _) n)⟩
    go_wp2_with fail
    go_quiet (fail)
    all_goals
      go_wp2_with fail
      go_ret
      exact HQ.out _
  by_cases hbig : 5 ≤ lev
  · have HP : Hid (dropLs files lev num = none) := by show _ = _; unfold dropLs; rw [if_neg (by omega)]
    have HQ : Hid (∀ n, DropPost D E A wb g files lev num nx sq lg w (.returned (.bool false)) (w1.drewN n)) := fun n => by unfold DropPost; rw [HP.out]; exact ⟨rfl, HWR.out _ (below_dn (Below.refl _ _) n)⟩
    have t0 : decide (lev < 0) = false := decide_eq_false hneg
    go_wp2_with fail
    go_quiet (fail)
    all_goals
      go_wp2_with fail
      go_ret
      exact HQ.out _
  obtain ⟨m, rfl⟩ : ∃ m : Nat, lev = (m : Int) := ⟨lev.toNat, by omega⟩
  have hm5 : m < 5 := by omega
  have t0 : decide ((m : Int) < 0) = false := decide_eq_false hneg
  have t1 : decide ((5 : Int) ≤ (m : Int)) = false := decide_eq_false hbig
  have t1n : decide (5 ≤ m) = false := decide_eq_false (by omega)
  clear hneg hbig hl1 hl2
  go_wp2_with fail
  go_quiet (fail)
  all_goals
    go_wp2_with fail
    refine wp_gen fun w2 hw2 => ?_
    have HX2 : Hid (Blk w2.drew db #[.int .i64 (m : Int), .int .u64 num] 100) := by rw [hw2]; exact HX1.out
    have HH2 : Hid (WorkAt D E A wb g us files nx sq lg w2.drew) := by rw [hw2]; exact HH1.out.below (below_drew (below_dn (Below.refl _ _) _))
    have HW2 : Hid (Wrote D w w2.drew) := by rw [hw2]; exact HWR.out _ (below_drew (below_dn (Below.refl _ _) _))
    clear hw2 HX1 HH1 HW1 HWR y0 x0 t0 t1 t1n
    obtain ⟨ra, rc, hru, hcm, hfm, hrow⟩ := HH2.out.level hm5
    have HLE := Lib.hid (HFEW.out m hm5)
    obtain ⟨fs, hfs⟩ : ∃ fs, lat files m = fs := ⟨_, rfl⟩
    have HFS := Lib.hid hfs
    rw [hfs] at hru hcm hrow HLE
    obtain ⟨n, hn⟩ : ∃ n, fs.length = n := ⟨_, rfl⟩
    have HN := Lib.hid hn
    have HRU := Lib.hid hru
    rw [hn] at HLE HRU hcm hrow
    have HROW := Lib.hid hrow
    have HCM := Lib.hid hcm
    have HCF := Lib.hid hfm
    have hix := findex_any _ 106 #[.pointer (some ⟨db, 0, none⟩)] (numIs num) (.slice ra n rc) fs w2.drew hrow.rows (by rw [hn]; exact Nat.le_trans HLE.out (by omega)) (drop1_asks (m : Int) num db fs w2.drew (HX2.out.cell rfl) HX2.out.lt) drop1_bodied
    rw [hn] at hix
    have HIX := Lib.hid hix
    have y0 : w2.drew.cell? ⟨wb, 0, none⟩ = some (.slice (some ⟨g, 0, none⟩) 5 5) := HH2.out.blk.cell rfl
    have x0 : w2.drew.cell? ⟨db, 0, none⟩ = some (.int .i64 (m : Int)) := HX2.out.cell rfl
    have tm : (m : Int) < 5 := by omega
    clear hfs hn hru hrow hfm hix
    go_still_tail 10, (by kernel_rfl)
    change wpList _ _ _ _ _ w2.drew
    go_wp2_with fail
    refine Calls.mono HIX.out ?_
    rintro _ w3 ⟨j, hj, rfl, hb3⟩
    have HJ := Lib.hid hj
    have HX3 := Lib.hid (HX2.out.below hb3 HX2.out.lt)
    have HH3 := Lib.hid (HH2.out.below hb3)
    have HW3 : Hid (Wrote D w w3) := HW2.out.trans (Wrote.of_below hb3)
    have HCM3 : Hid (w3.cell? ⟨g, m, none⟩ = some (.slice ra n rc)) := (hb3.cell (p := ⟨g, m, none⟩) (World.block_lt_of_cell? _ _ hcm)).trans hcm
    have HCF3 : Hid (w3.frozen? ⟨g, m, none⟩ = false) := (hb3.frozen (p := ⟨g, m, none⟩) (World.block_lt_of_cell? _ _ hcm)).trans HCF.out
    have HROW3 := Lib.hid (HROW.out.below hb3)
    have HGL : Hid (g < w3.heap.size) := Nat.lt_of_lt_of_le (World.block_lt_of_cell? _ _ hcm) hb3.size
    clear hj hb3 hcm y0 x0 HIX HX2 HH2 HW2 HROW HCM HCF
    by_cases hjn : j < n
    case neg =>
      rw [if_neg hjn]
      have HQ : Hid (DropPost D E A wb g files (m : Int) num nx sq lg w (.returned (.bool false)) w3) := by
        have hp : dropLs files (m : Int) num = none := by
          unfold dropLs
          rw [if_pos (by omega), Int.toNat_natCast, HFS.out, HJ.out.idx, HN.out, if_neg hjn]
        unfold DropPost
        rw [hp]
        exact ⟨rfl, HW3.out⟩
      go_wp2_with fail
      go_ret
      exact HQ.out
    rw [if_pos hjn]
    have u0 : 0 ≤ (j : Int) := by omega
    have u1 : IntKind.i64.wrap ((j : Int) + 1) = (j : Int) + 1 := by have := HLE.out; rw [wrap_small (by omega) (by omega)]
    obtain ⟨fs', hfs'⟩ : ∃ fs', fs.eraseIdx j = fs' := ⟨_, rfl⟩
    have HFS' := Lib.hid hfs'
    have hdel := (fdel_any _ A (.slice ra n rc) fs j w3.drew (HROW3.out.below (below_drew (Below.refl _ _))) (by rw [HN.out]; exact hjn) (by rw [HN.out]; have := HLE.out; omega))
    rw [hfs'] at hdel
    have HDEL := Lib.hid hdel
    have HJN := Lib.hid hjn
    clear hfs' hdel
    have y0 : w3.drew.cell? ⟨wb, 0, none⟩ = some (.slice (some ⟨g, 0, none⟩) 5 5) := HH3.out.blk.cell rfl
    have x0 : w3.drew.cell? ⟨db, 0, none⟩ = some (.int .i64 (m : Int)) := HX3.out.cell rfl
    have k0 : w3.drew.cell? ⟨g, m, none⟩ = some (.slice ra n rc) := HCM3.out
    have HU5 : Hid (m < us.length) := by have := HH3.out.five; show _ < _; omega
    clear hjn
    go_wp2_with fail
    have HKEEP : Hid (∀ (w : World) (u : Value), w.cell? ⟨wb, 0, none⟩ = some (.slice (some ⟨g, 0, none⟩) 5 5) → w.cell? ⟨db, 0, none⟩ = some (.int .i64 (m : Int)) → (w.setCell ⟨g, m, none⟩ u).cell? ⟨wb, 0, none⟩ = some (.slice (some ⟨g, 0, none⟩) 5 5) ∧ (w.setCell ⟨g, m, none⟩ u).cell? ⟨db, 0, none⟩ = some (.int .i64 (m : Int))) := fun w u h1 h2 =>
      ⟨(World.cell?_setCell_other _ _ _ _ (fun e => HH3.out.out (by injection e with e; rw [← e]; exact HH3.out.fl.da g rfl))).trans h1, (World.cell?_setCell_other _ _ _ _ (fun e => HGD.out (by injection e))).trans h2⟩
    refine wp_region_held_drew (S := fun w' => w'.cell? ⟨wb, 0, none⟩ = some (.slice (some ⟨g, 0, none⟩) 5 5) ∧ w'.cell? ⟨db, 0, none⟩ = some (.int .i64 (m : Int))) (by kernel_rfl) (⟨y0, x0⟩) (fun hHeld => ?_)
    refine wpAnyH_take (i := 0) (oi := ?oR_0) (v := ?vR_0) ?eR_0 (by kernel_rfl) (by kernel_rfl) (by kernel_rfl) ?qR_0 (Or.inl ⟨?wR_0, ?yR_0⟩) (by assumption) ?rR_0
    case eR_0 => simp only [List.getElem?_toArray, List.getElem?_cons_zero]; rfl
    case wR_0 => rfl
    case qR_0 => exact fun _ _ _ h => h
    case yR_0 => (intro w hSw; (try dsimp only at hSw); go_simp; try with_reducible rfl)
    try simp only [Act.put, List.setIfInBounds_toArray, List.set_cons_zero, List.set_cons_succ]
    refine wpAnyH_take (i := 1) (oi := ?oR_1) (v := ?vR_1) ?eR_1 (by kernel_rfl) (by kernel_rfl) (by kernel_rfl) ?qR_1 (Or.inl ⟨?wR_1, ?yR_1⟩) (by assumption) ?rR_1
    case eR_1 => simp only [List.getElem?_toArray, List.getElem?_cons_succ, List.getElem?_cons_zero]; rfl
    case wR_1 => rfl
    case qR_1 => exact fun _ _ _ h => h
    case yR_1 => (intro w hSw; (try dsimp only at hSw); go_simp; try with_reducible rfl)
    try simp only [Act.put, List.setIfInBounds_toArray, List.set_cons_zero, List.set_cons_succ]
    refine wpAnyH_take (i := 2) (oi := ?oR_2) (v := ?vR_2) ?eR_2 (by kernel_rfl) (by kernel_rfl) (by kernel_rfl) ?qR_2 (Or.inl ⟨?wR_2, ?yR_2⟩) (by assumption) ?rR_2
    case eR_2 => simp only [List.getElem?_toArray, List.getElem?_cons_succ, List.getElem?_cons_zero]; rfl
    case wR_2 => rfl
    case qR_2 => exact fun _ _ _ h => h
    case yR_2 => (intro w hSw; (try dsimp only at hSw); go_simp; try with_reducible rfl)
    try simp only [Act.put, List.setIfInBounds_toArray, List.set_cons_zero, List.set_cons_succ]
    refine wpAnyH_take (i := 3) (oi := ?oR_3) (v := ?vR_3) ?eR_3 (by kernel_rfl) (by kernel_rfl) (by kernel_rfl) ?qR_3 (Or.inl ⟨?wR_3, ?yR_3⟩) (by assumption) ?rR_3
    case eR_3 => simp only [List.getElem?_toArray, List.getElem?_cons_succ, List.getElem?_cons_zero]; rfl
    case wR_3 => rfl
    case qR_3 => exact fun _ _ _ h => h
    case yR_3 => (intro w hSw; (try dsimp only at hSw); go_simp; try with_reducible rfl)
    try simp only [Act.put, List.setIfInBounds_toArray, List.set_cons_zero, List.set_cons_succ]
    refine wpAnyH_take (i := 4) (oi := ?oR_4) (v := ?vR_4) ?eR_4 (by kernel_rfl) (by kernel_rfl) (by kernel_rfl) ?qR_4 (Or.inl ⟨?wR_4, ?yR_4⟩) (by assumption) ?rR_4
    case eR_4 => simp only [List.getElem?_toArray, List.getElem?_cons_succ, List.getElem?_cons_zero]; rfl
    case wR_4 => rfl
    case qR_4 => exact fun _ _ _ h => h
    case yR_4 => (intro w hSw; (try dsimp only at hSw); go_simp; try with_reducible rfl)
    try simp only [Act.put, List.setIfInBounds_toArray, List.set_cons_zero, List.set_cons_succ]
    refine wpAnyH_take (i := 5) (oi := ?oR_5) (v := ?vR_5) ?eR_5 (by kernel_rfl) (by kernel_rfl) (by kernel_rfl) ?qR_5 (Or.inl ⟨?wR_5, ?yR_5⟩) (by assumption) ?rR_5
    case eR_5 => simp only [List.getElem?_toArray, List.getElem?_cons_succ, List.getElem?_cons_zero]; rfl
    case wR_5 => rfl
    case qR_5 => exact fun _ _ _ h => h
    case yR_5 => (intro w hSw; (try dsimp only at hSw); go_simp; try with_reducible rfl)
    try simp only [Act.put, List.setIfInBounds_toArray, List.set_cons_zero, List.set_cons_succ]
    refine wpAnyH_take (i := 6) (oi := ?oR_6) (v := ?vR_6) ?eR_6 (by kernel_rfl) (by kernel_rfl) (by kernel_rfl) ?qR_6 (Or.inl ⟨?wR_6, ?yR_6⟩) (by assumption) ?rR_6
    case eR_6 => simp only [List.getElem?_toArray, List.getElem?_cons_succ, List.getElem?_cons_zero]; rfl
    case wR_6 => rfl
    case qR_6 => exact fun _ _ _ h => h
    case yR_6 => (intro w hSw; (try dsimp only at hSw); go_simp; try with_reducible rfl)
    try simp only [Act.put, List.setIfInBounds_toArray, List.set_cons_zero, List.set_cons_succ]
    refine wpAnyH_take (i := 7) (oi := ?oR_7) (v := ?vR_7) ?eR_7 (by kernel_rfl) (by kernel_rfl) (by kernel_rfl) ?qR_7 (Or.inl ⟨?wR_7, ?yR_7⟩) (by assumption) ?rR_7
    case eR_7 => simp only [List.getElem?_toArray, List.getElem?_cons_succ, List.getElem?_cons_zero]; rfl
    case wR_7 => rfl
    case qR_7 => exact fun _ _ _ h => h
    case yR_7 => (intro w hSw; (try dsimp only at hSw); go_simp; try with_reducible rfl)
    try simp only [Act.put, List.setIfInBounds_toArray, List.set_cons_zero, List.set_cons_succ]
    refine wpAnyH_take (i := 8) (oi := ?oR_8) (v := ?vR_8) ?eR_8 (by kernel_rfl) (by kernel_rfl) (by kernel_rfl) ?qR_8 (Or.inl ⟨?wR_8, ?yR_8⟩) (by assumption) ?rR_8
    case eR_8 => simp only [List.getElem?_toArray, List.getElem?_cons_succ, List.getElem?_cons_zero]; rfl
    case wR_8 => rfl
    case qR_8 => exact fun _ _ _ h => h
    case yR_8 => (intro w hSw; (try dsimp only at hSw); go_simp; try with_reducible rfl)
    try simp only [Act.put, List.setIfInBounds_toArray, List.set_cons_zero, List.set_cons_succ]
    refine wpAnyH_take (i := 9) (oi := ?oR_9) (v := ?vR_9) ?eR_9 (by kernel_rfl) (by kernel_rfl) (by kernel_rfl) ?qR_9 (Or.inl ⟨?wR_9, ?yR_9⟩) (by assumption) ?rR_9
    case eR_9 => simp only [List.getElem?_toArray, List.getElem?_cons_succ, List.getElem?_cons_zero]; rfl
    case wR_9 => rfl
    case qR_9 => exact fun _ _ _ h => h
    case yR_9 => (intro w hSw; (try dsimp only at hSw); go_simp; try with_reducible rfl)
    try simp only [Act.put, List.setIfInBounds_toArray, List.set_cons_zero, List.set_cons_succ]
    refine wpAnyH_take (i := 10) (oi := ?oR_10) (v := ?vR_10) ?eR_10 (by kernel_rfl) (by kernel_rfl) (by kernel_rfl) ?qR_10 (Or.inl ⟨?wR_10, ?yR_10⟩) (by assumption) ?rR_10
    case eR_10 => simp only [List.getElem?_toArray, List.getElem?_cons_succ, List.getElem?_cons_zero]; rfl
    case wR_10 => rfl
    case qR_10 => exact fun _ _ _ h => h
    case yR_10 => (intro w hSw; (try dsimp only at hSw); go_simp; try with_reducible rfl)
    try simp only [Act.put, List.setIfInBounds_toArray, List.set_cons_zero, List.set_cons_succ]
    refine wpAnyH_take (i := 11) (oi := ?oR_11) (v := ?vR_11) ?eR_11 (by kernel_rfl) (by kernel_rfl) (by kernel_rfl) ?qR_11 (Or.inl ⟨?wR_11, ?yR_11⟩) (by assumption) ?rR_11
    case eR_11 => simp only [List.getElem?_toArray, List.getElem?_cons_succ, List.getElem?_cons_zero]; rfl
    case wR_11 => rfl
    case qR_11 => exact fun _ _ _ h => h
    case yR_11 => (intro w hSw; (try dsimp only at hSw); go_simp; try with_reducible rfl)
    try simp only [Act.put, List.setIfInBounds_toArray, List.set_cons_zero, List.set_cons_succ]
    refine wpAnyH_take (i := 12) (oi := ?oR_12) (v := ?vR_12) ?eR_12 (by kernel_rfl) (by kernel_rfl) (by kernel_rfl) ?qR_12 (Or.inl ⟨?wR_12, ?yR_12⟩) (by assumption) ?rR_12
    case eR_12 => simp only [List.getElem?_toArray, List.getElem?_cons_succ, List.getElem?_cons_zero]; rfl
    case wR_12 => rfl
    case qR_12 => exact fun _ _ _ h => h
    case yR_12 => (intro w hSw; (try dsimp only at hSw); go_simp; try with_reducible rfl)
    try simp only [Act.put, List.setIfInBounds_toArray, List.set_cons_zero, List.set_cons_succ]
    refine wpAnyH_take (i := 13) (oi := ?oR_13) (v := ?vR_13) ?eR_13 (by kernel_rfl) (by kernel_rfl) (by kernel_rfl) ?qR_13 (Or.inl ⟨?wR_13, ?yR_13⟩) (by assumption) ?rR_13
    case eR_13 => simp only [List.getElem?_toArray, List.getElem?_cons_succ, List.getElem?_cons_zero]; rfl
    case wR_13 => rfl
    case qR_13 => exact fun _ _ _ h => h
    case yR_13 => (intro w hSw; (try dsimp only at hSw); go_simp; try with_reducible rfl)
    try simp only [Act.put, List.setIfInBounds_toArray, List.set_cons_zero, List.set_cons_succ]
    refine wpAnyH_take (i := 14) (oi := ?oR_14) (v := ?vR_14) ?eR_14 (by kernel_rfl) (by kernel_rfl) (by kernel_rfl) ?qR_14 (Or.inl ⟨?wR_14, ?yR_14⟩) (by assumption) ?rR_14
    case eR_14 => simp only [List.getElem?_toArray, List.getElem?_cons_succ, List.getElem?_cons_zero]; rfl
    case wR_14 => rfl
    case qR_14 => exact fun _ _ _ h => h
    case yR_14 => (intro w hSw; (try dsimp only at hSw); go_simp; try with_reducible rfl)
    try simp only [Act.put, List.setIfInBounds_toArray, List.set_cons_zero, List.set_cons_succ]
    refine wpAnyH_take (i := 16) (oi := ?oR_16) (v := ?vR_16) ?eR_16 (by kernel_rfl) (by kernel_rfl) (by kernel_rfl) ?qR_16 (Or.inl ⟨?wR_16, ?yR_16⟩) (by assumption) ?rR_16
    case eR_16 => simp only [List.getElem?_toArray, List.getElem?_cons_succ, List.getElem?_cons_zero]; rfl
    case wR_16 => rfl
    case qR_16 => exact fun _ _ _ h => h
    case yR_16 => (intro w hSw; (try dsimp only at hSw); go_simp; try with_reducible rfl)
    try simp only [Act.put, List.setIfInBounds_toArray, List.set_cons_zero, List.set_cons_succ]
    refine wpAnyH_take (i := 17) (oi := ?oR_17) (v := ?vR_17) ?eR_17 (by kernel_rfl) (by kernel_rfl) (by kernel_rfl) ?qR_17 (Or.inl ⟨?wR_17, ?yR_17⟩) (by assumption) ?rR_17
    case eR_17 => simp only [List.getElem?_toArray, List.getElem?_cons_succ, List.getElem?_cons_zero]; rfl
    case wR_17 => rfl
    case qR_17 => exact fun _ _ _ h => h
    case yR_17 => (intro w hSw; (try dsimp only at hSw); go_simp; try with_reducible rfl)
    try simp only [Act.put, List.setIfInBounds_toArray, List.set_cons_zero, List.set_cons_succ]
    refine wpAnyH_take (i := 18) (oi := ?oR_18) (v := ?vR_18) ?eR_18 (by kernel_rfl) (by kernel_rfl) (by kernel_rfl) ?qR_18 (Or.inl ⟨?wR_18, ?yR_18⟩) (by assumption) ?rR_18
    case eR_18 => simp only [List.getElem?_toArray, List.getElem?_cons_succ, List.getElem?_cons_zero]; rfl
    case wR_18 => rfl
    case qR_18 => exact fun _ _ _ h => h
    case yR_18 => (intro w hSw; (try dsimp only at hSw); go_simp; try with_reducible rfl)
    try simp only [Act.put, List.setIfInBounds_toArray, List.set_cons_zero, List.set_cons_succ]
    refine wpAnyH_ready (rs := [15]) (by kernel_rfl) (by simp) ?_
    refine AllReadyH.cons (o := ?oR_15) ?eR_15 (fun K hK => ?_) AllReadyH.nil
    case eR_15 => simp only [List.getElem?_toArray, List.getElem?_cons_succ, List.getElem?_cons_zero]; rfl
    go_simp
    skip
    try go_wp2_with fail
    refine hK.out _ _ (hHeld) (fun hHeld => ?_)
    clear hK
    try simp only [Act.put, List.setIfInBounds_toArray, List.set_cons_zero, List.set_cons_succ]
    refine wpAnyH_ready (rs := [19]) (by kernel_rfl) (by simp) ?_
    refine AllReadyH.cons (o := ?oR_19) ?eR_19 (fun K hK => ?_) AllReadyH.nil
    case eR_19 => simp only [List.getElem?_toArray, List.getElem?_cons_succ, List.getElem?_cons_zero]; rfl
    go_simp
    (go_at_call 107; refine Calls.mono HDEL.out ?_; rintro _ w4 ⟨v4, rfl, ho4, hg4⟩; obtain ⟨a4, c4, rfl⟩ := ho4.isSlice; have z1 : w4.heap[wb]? = w3.heap[wb]? := hg4.grown.block wb HH3.out.blk.lt (fun e => HH3.out.out (HH3.out.fl.dr m wb HU5.out (by rw [HRU.out]; exact e.symm))); have z2 : w4.heap[db]? = w3.heap[db]? := hg4.grown.block db HX3.out.lt (fun e => HUD.out m hm5 (by rw [HRU.out]; exact e.symm)); have z3 : w4.heap[g]? = w3.heap[g]? := hg4.grown.block g HGL.out (fun e => HH3.out.fl.ne m g HU5.out (by rw [HRU.out]; exact e.symm) rfl); have y4 : w4.cell? ⟨wb, 0, none⟩ = some (.slice (some ⟨g, 0, none⟩) 5 5) := (World.cell?_of_block (w := w3) z1).trans (HH3.out.blk.cell rfl); have x4 : w4.cell? ⟨db, 0, none⟩ = some (.int .i64 (m : Int)) := (World.cell?_of_block (w := w3) z2).trans (HX3.out.cell rfl); have k4 : w4.cell? ⟨g, m, none⟩ = some (.slice ra n rc) := (World.cell?_of_block (w := w3) z3).trans HCM3.out; have f4 : w4.frozen? ⟨g, m, none⟩ = false := (frozen_of_block (w := w3) z3).trans HCF3.out; clear z1 z2 z3)
    try go_wp2_with fail
    refine hK.out _ _ (⟨y4, x4⟩) (fun hHeld => ?_)
    clear hK
    try simp only [Act.put, List.setIfInBounds_toArray, List.set_cons_zero, List.set_cons_succ]
    refine wpAnyH_take (i := 20) (oi := ?oR_20) (v := ?vR_20) ?eR_20 (by kernel_rfl) (by kernel_rfl) (by kernel_rfl) ?qR_20 (Or.inl ⟨?wR_20, ?yR_20⟩) (by assumption) ?rR_20
    case eR_20 => simp only [List.getElem?_toArray, List.getElem?_cons_succ, List.getElem?_cons_zero]; rfl
    case wR_20 => rfl
    case qR_20 => exact fun _ _ _ h => h
    case yR_20 => (intro w hSw; (try dsimp only at hSw); go_simp; try with_reducible rfl)
    try simp only [Act.put, List.setIfInBounds_toArray, List.set_cons_zero, List.set_cons_succ]
    refine wpAnyH_ready (rs := [21]) (by kernel_rfl) (by simp) ?_
    refine AllReadyH.cons (o := ?oR_21) ?eR_21 (fun K hK => ?_) AllReadyH.nil
    case eR_21 => simp only [List.getElem?_toArray, List.getElem?_cons_succ, List.getElem?_cons_zero]; rfl
    go_simp
    skip
    try go_wp2_with fail
    refine hK.out _ _ (HKEEP.out w4 _ y4 x4) (fun hHeld => ?_)
    clear hK
    try simp only [Act.put, List.setIfInBounds_toArray, List.set_cons_zero, List.set_cons_succ]
    refine wpAnyH_done (by kernel_rfl) ?_ _
    have HP : Hid (DropPost D E A wb g files (m : Int) num nx sq lg w (.returned (.bool true)) (w4.setCell ⟨g, m, none⟩ (.slice a4 fs'.length c4))) := by
      have hp : dropLs files (m : Int) num = some (files.set m fs') := by
        unfold dropLs
        rw [if_pos (by omega), Int.toNat_natCast, HFS.out, HJ.out.idx, HN.out, if_pos HJN.out, HFS'.out]
      have hg5 := HH3.out.five
      have hww : Wrote D w3.drew (w4.setCell ⟨g, m, none⟩ (.slice a4 fs'.length c4)) :=
        Wrote.setCell ⟨hg4.grown.os, hg4.grown.tape, hg4.grown.output, hg4.grown.size, fun k hk hn => hg4.grown.block k hk fun e => hn (HH3.out.fl.dr m k HU5.out (by rw [HRU.out]; exact e.symm))⟩ _ _ (.inl (HH3.out.fl.da g rfl))
      have h3 := HH3.out.drew
      have hfl := h3.fl
      rw [← hg5] at hfl
      have hlast := Fw.last (m := m) (u' := .slice a4 fs'.length c4) (cur := fs') (w' := w4) hfl HU5.out (by rw [hg5]; exact ho4) (by rw [HRU.out]; exact hg4) rfl fun k hk => HH3.out.new k hk
      rw [hg5] at hlast
      unfold DropPost
      rw [hp]
      refine ⟨us.set m (.slice a4 fs'.length c4), rfl, ⟨h3.blk.same (hww.block _ h3.blk.lt h3.out), hlast, by rw [List.length_set]; exact hg5, h3.out, fun k hk => h3.new k (Nat.le_trans hww.size hk), Nat.le_trans h3.le hww.size⟩, HW3.out.trans ?_⟩
      exact (Wrote.of_below (below_drew (Below.refl _ _))).trans hww
    clear ho4 hg4 y4 x4 k4 f4 hHeld
    go_wp2_with fail
    go_ret
    exact HP.out
end Go.Proofs.Ytkcohhldmhdcfaa

namespace Go.Proofs.Ytkcohhldmhdcfaa
open Go.RowKit

/-- Is a file of a number anywhere? -/
def hasNum (ls : List (List Fil)) (num : Int) : Bool := ls.any fun l => l.any (numIs num)

set_option maxRecDepth 100000 in
theorem has11_any (F G : Nat → Prop) (f : Fil) (la : Option Addr) (lc : Nat) (ma : Option Addr) (mc : Nat) (num : Int) (nb : Nat) (w : World) (_hl : Bytes F w (.slice la f.least.length lc) f.least) (_hm : Bytes G w (.slice ma f.most.length mc) f.most) (hc : w.cell? ⟨nb, 0, none⟩ = some (.int .u64 num)) :
    Calls Try.prog 110 #[.agg #[.int .u64 f.num, .int .i64 f.size, .slice la f.least.length lc, .slice ma f.most.length mc, .int .i64 f.ents, .int .u64 f.mseq], .pointer (some ⟨nb, 0, none⟩)] w fun e w' => e = .returned (.bool (numIs num f)) ∧ Below w.heap.size w w' := by
  have HC := Lib.hid hc
  clear _hl _hm hc
  go_enter Try.func110, Try.ntmps110
  go_upto_region 1 with fail
  refine wp_gen fun w1 hw1 => ?_
  have HX1 : Hid (Blk w1 w.heap.size (filCells f (.slice la f.least.length lc) (.slice ma f.most.length mc)).toArray 42) := by rw [hw1]; exact Blk.at_new rfl rfl
  have HW1 : Hid (Below w.heap.size w w1) := by rw [hw1]; exact (Below.refl _ _).alloc (Nat.le_refl _) _
  have y1 : w1.cell? ⟨nb, 0, none⟩ = some (.int .u64 num) := by rw [hw1]; exact Lib.cell?_alloc_some _ HC.out
  clear hw1
  have x0 : w1.cell? ⟨w.heap.size, 0, none⟩ = some (.int .u64 f.num) := HX1.out.cell rfl
  go_wp2_with fail
  go_ret
  exact ⟨rfl, HW1.out⟩
theorem has11_bodied : Bodied 110 := fun _ _ => by kernel_rfl
theorem has11_asks (num : Int) (nb : Nat) (l : List Fil) (w : World) (hc : w.cell? ⟨nb, 0, none⟩ = some (.int .u64 num)) (hb : nb < w.heap.size) :
    Asks 110 #[.pointer (some ⟨nb, 0, none⟩)] (numIs num) l w := fun f la lc ma mc x _ hx hl hm =>
  has11_any _ _ f la lc ma mc num nb x hl hm ((hx.cell (p := ⟨nb, 0, none⟩) hb).trans hc)

set_option maxRecDepth 100000 in
theorem has1_any (F : Nat → Prop) (v : Value) (l : List Fil) (num : Int) (nb : Nat) (w : World) (h : Rw filK F w v l) (hfew : l.length ≤ 1000000) (hc : w.cell? ⟨nb, 0, none⟩ = some (.int .u64 num)) :
    Calls Try.prog 109 #[v, .pointer (some ⟨nb, 0, none⟩)] w fun e w' => e = .returned (.bool (l.any (numIs num))) ∧ Below w.heap.size w w' := by
  have HI := Lib.hid (fcontains_any F 110 #[.pointer (some ⟨nb, 0, none⟩)] (numIs num) v l w h hfew (has11_asks num nb l w hc (World.block_lt_of_cell? _ _ hc)) has11_bodied)
  obtain ⟨xa, ca, rfl⟩ := h.isSlice
  clear h hc
  go_enter Try.func109, Try.ntmps109
  go_wp2_with fail
  refine Calls.mono HI.out ?_
  rintro _ w2 ⟨rfl, hb⟩
  have HB := Lib.hid hb
  clear hb HI
  go_wp2_with fail
  go_ret
  exact ⟨rfl, HB.out⟩

/-- The first level that has one. -/
structure FirstL (p : List Fil → Bool) (l : List (List Fil)) (j : Nat) : Prop where
  le : j ≤ l.length
  off : ∀ i, i < j → p (lat l i) = false
  on : j < l.length → p (lat l j) = true
theorem FirstL.any {p : List Fil → Bool} {l : List (List Fil)} {j : Nat} (h : FirstL p l j) : l.any p = decide (j < l.length) := by
  by_cases hj : j < l.length
  · rw [decide_eq_true hj, List.any_eq_true]
    exact ⟨_, List.getElem_mem hj, by rw [lat_eq hj]; exact h.on hj⟩
  · rw [decide_eq_false hj, List.any_eq_false]
    intro x hx
    obtain ⟨i, hi, rfl⟩ := List.mem_iff_getElem.1 hx
    rw [lat_eq hi, h.off i (by omega)]
    decide

set_option maxRecDepth 100000 in
set_option maxHeartbeats 4000000 in
theorem lindex_any (F : Nat → Prop) (num : Int) (nb : Nat) (v : Value) (l : List (List Fil)) (w : World) (h : Rw (rowK filK) F w v l) (hl : l.length ≤ 1000000) (hfew : ∀ i, i < l.length → (lat l i).length ≤ 1000000) (hc : w.cell? ⟨nb, 0, none⟩ = some (.int .u64 num)) :
    Calls Try.prog 129 #[v, .func (.func 109) #[] #[.pointer (some ⟨nb, 0, none⟩)]] w fun e w' => ∃ j, FirstL (fun l => l.any (numIs num)) l j ∧ e = .returned (.int .i64 (if j < l.length then (j : Int) else -1)) ∧ Below w.heap.size w w' := by
  obtain ⟨xa, ca, rfl⟩ := h.isSlice
  have HA : Hid (Rw (rowK filK) (· < w.heap.size) w (.slice xa l.length ca) l) := h.mono fun k hk _ => hk
  have HC := Lib.hid hc
  have HFEW := Lib.hid hfew
  clear h hc hfew
  obtain ⟨n, hn⟩ : ∃ n, l.length = n := ⟨_, rfl⟩
  have HN := Lib.hid hn
  rw [hn] at HA hl
  rw [hn]
  clear hn
  go_enter Try.func129, Try.ntmps129
  go_wp2_with fail
  go_loopw [8] (fun iv wr => ∃ (j : Nat), iv = .int .i64 (j : Int) ∧ j ≤ n ∧ Hid (∀ i, i < j → (lat l i).any (numIs num) = false) ∧ Hid (Below w.heap.size w wr)) (fun iv _ => n - (intOf iv).toNat)
  case atStart => exact ⟨0, rfl, by omega, (fun i hi => by omega), Below.refl _ _⟩
  case round =>
    obtain ⟨j, rfl, hj, HO, HW⟩ := hrel
    by_cases hlt : j < n
    · have t1 : (j : Int) < (n : Int) := by omega
      have t3 : 0 ≤ (j : Int) := by omega
      have hl1 : j < l.length := by rw [HN.out]; omega
      obtain ⟨ba, oa, capa, ea, hba, _, hca⟩ := levs_at HA.out (by omega)
      obtain ⟨u, hu, c0⟩ := hca j hl1
      injection ea with e1 e2 e3
      subst e1 e3
      clear e2 hca
      have HLE := Lib.hid (HFEW.out j hl1)
      obtain ⟨f, hf⟩ : ∃ f, lat l j = f := ⟨_, rfl⟩
      have HF := Lib.hid hf
      rw [hf] at hu HLE
      obtain ⟨la, lc, rfl⟩ := hu.isSlice
      have HU := Lib.hid hu
      have c0 := (HW.out.cell (p := ⟨ba, oa + j, none⟩) hba).trans c0
      clear hu hl1 hf hba
      go_wp2_with fail
      clear c0
      refine Calls.mono (has1_any _ (.slice la f.length lc) f num nb _ (HU.out.keep fun k hk hF => HW.out.block k hk) HLE.out ((HW.out.cell (p := ⟨nb, 0, none⟩) (World.block_lt_of_cell? _ _ HC.out)).trans HC.out)) ?_
      rintro _ w2 ⟨rfl, hb⟩
      have HW2 : Hid (Below w.heap.size w w2) := HW.out.trans (hb.mono HW.out.size)
      clear hb HW HU
      obtain ⟨r, hr⟩ : ∃ r, f.any (numIs num) = r := ⟨_, rfl⟩
      have HR := Lib.hid hr
      rw [hr]
      clear hr
      cases r with
      | false =>
        go_wp2_with fail
        go_roundw
        · exact ⟨j + 1, by go_num, by omega, (fun i hi => by
            by_cases e0 : i = j
            · rw [e0, HF.out]; exact HR.out
            · exact HO.out i (by omega)), HW2.out⟩
        · simp only [intOf]; omega
      | true =>
        have HP : Hid (FirstL (fun l => l.any (numIs num)) l j) := ⟨by rw [HN.out]; omega, HO.out, fun _ => by rw [HF.out]; exact HR.out⟩
        have HE : Hid ((j : Int) = if j < n then (j : Int) else -1) := by show _ = _; rw [if_pos hlt]
        go_wp2_with fail
        go_ret
        exact ⟨j, HP.out, ret_int HE.out, HW2.out⟩
    · have t1 : ¬ (j : Int) < (n : Int) := by omega
      have hjn : j = n := by omega
      have HP : Hid (FirstL (fun l => l.any (numIs num)) l j) := ⟨by rw [HN.out]; omega, HO.out, fun h => by rw [HN.out] at h; omega⟩
      have HE : Hid ((-1 : Int) = if j < n then (j : Int) else -1) := by show _ = _; rw [if_neg hlt]
      clear hjn
      go_wp2_with fail
      go_ret
      exact ⟨j, HP.out, ret_int HE.out, HW.out⟩

set_option maxRecDepth 100000 in
theorem lcontains_any (F : Nat → Prop) (num : Int) (nb : Nat) (v : Value) (l : List (List Fil)) (w : World) (h : Rw (rowK filK) F w v l) (hl : l.length ≤ 1000000) (hfew : ∀ i, i < l.length → (lat l i).length ≤ 1000000) (hc : w.cell? ⟨nb, 0, none⟩ = some (.int .u64 num)) :
    Calls Try.prog 108 #[v, .func (.func 109) #[] #[.pointer (some ⟨nb, 0, none⟩)]] w fun e w' => e = .returned (.bool (hasNum l num)) ∧ Below w.heap.size w w' := by
  have HI := Lib.hid (lindex_any F num nb v l w h hl hfew hc)
  obtain ⟨xa, ca, rfl⟩ := h.isSlice
  clear h hc
  go_enter Try.func108, Try.ntmps108
  go_wp2_with fail
  refine Calls.mono HI.out ?_
  rintro _ w2 ⟨j, hj, rfl, hb⟩
  have HB := Lib.hid hb
  have HA := Lib.hid hj.any
  clear hb hj HI
  by_cases hlt : j < l.length
  · have t1 : 0 ≤ (j : Int) := by omega
    rw [if_pos hlt]
    have HE : Hid (hasNum l num = true) := by show _ = _; unfold hasNum; rw [HA.out, decide_eq_true hlt]
    clear hlt HA
    go_wp2_with fail
    go_ret
    exact ⟨ret_bool HE.out.symm, HB.out⟩
  · rw [if_neg hlt]
    have HE : Hid (hasNum l num = false) := by show _ = _; unfold hasNum; rw [HA.out, decide_eq_false hlt]
    clear hlt HA
    go_wp2_with fail
    go_ret
    exact ⟨ret_bool HE.out.symm, HB.out⟩

set_option maxRecDepth 100000 in
theorem has_any (D E : Nat → Prop) (A wb g : Nat) (us : List Value) (files : List (List Fil)) (num nx sq lg : Int) (w : World) (h : WorkAt D E A wb g us files nx sq lg w) (hfew : ∀ i, i < 5 → (lat files i).length ≤ 1000000) :
    Calls Try.prog 70 #[.pointer (some ⟨wb, 0, none⟩), .int .u64 num] w fun e w' => e = .returned (.bool (hasNum files num)) ∧ Below w.heap.size w w' := by
  have h5 : files.length = 5 := by rw [← h.fl.len]; exact h.five
  have HH := Lib.hid h
  have HR := Lib.hid h.fl.rows
  have HF := Lib.hid (fun i (hi : i < files.length) => hfew i (by omega))
  have H5 := Lib.hid h5
  clear h hfew h5
  go_enter Try.func70, Try.ntmps70
  go_upto_region 1 with fail
  refine wp_gen fun w1 hw1 => ?_
  have HX1 : Hid (Blk w1 w.heap.size #[.int .u64 num] 23) := by rw [hw1]; exact Blk.at_new rfl rfl
  have HW1 : Hid (Below w.heap.size w w1) := by rw [hw1]; exact (Below.refl _ _).alloc (Nat.le_refl _) _
  have y0 : w1.cell? ⟨wb, 0, none⟩ = some (.slice (some ⟨g, 0, none⟩) 5 5) := by rw [hw1]; exact Lib.cell?_alloc_some _ (HH.out.blk.cell rfl)
  clear hw1
  go_wp2_with fail
  clear y0
  refine Calls.mono (lcontains_any _ num w.heap.size (.slice (some ⟨g, 0, none⟩) 5 5) files w1 (HR.out.below HW1.out) (by rw [H5.out]; omega) HF.out (HX1.out.cell rfl)) ?_
  rintro _ w2 ⟨rfl, hb⟩
  have HW2 : Hid (Below w.heap.size w w2) := HW1.out.trans (hb.mono HW1.out.size)
  clear hb HX1 HW1
  go_wp2_with fail
  go_ret
  exact ⟨rfl, HW2.out⟩
end Go.Proofs.Ytkcohhldmhdcfaa

namespace Go.Proofs.Ytkcohhldmhdcfaa
open Go.RowKit

/-- The order on a level. -/
def lessC (lev : Int) (a x : Fil) : Int := if lev = 0 then Ent.sgn a.num x.num else Ent.bcmp a.least x.least
def aheadOf (lev : Int) (a x : Fil) : Bool := decide (lessC lev a x < 0)
/-- A file put onto a level. -/
def addTo (l : List Fil) (lev : Int) (f : Fil) : List Fil := insAt l (l.findIdx (aheadOf lev f)) f
def addLs (ls : List (List Fil)) (m : Nat) (f : Fil) : List (List Fil) := ls.set m (addTo (lat ls m) (m : Int) f)
def addCells (lev : Int) (f : Fil) (vl vm : Value) : List Value := .int .i64 lev :: filCells f vl vm

set_option maxRecDepth 100000 in
set_option maxHeartbeats 2000000 in
theorem add1_any (F G F' G' : Nat → Prop) (lev : Int) (x y : Fil) (xl xm yl ym : Value) (ab : Nat) (w : World) (h1 : Bytes F w xl x.least) (h2 : Bytes F' w xm x.most) (h3 : Bytes G w yl y.least) (h4 : Bytes G' w ym y.most) (hc : w.cell? ⟨ab, 0, none⟩ = some (.int .i64 lev)) :
    Calls Try.prog 111 #[.agg (filCells x xl xm).toArray, .agg (filCells y yl ym).toArray, .pointer (some ⟨ab, 0, none⟩)] w fun e w' => e = .returned (.int .i64 (lessC lev x y)) ∧ Below w.heap.size w w' := by
  obtain ⟨xla, xlc, rfl⟩ := h1.isSlice
  obtain ⟨xma, xmc, rfl⟩ := h2.isSlice
  obtain ⟨yla, ylc, rfl⟩ := h3.isSlice
  obtain ⟨yma, ymc, rfl⟩ := h4.isSlice
  have H1 := Lib.hid h1
  have H3 := Lib.hid h3
  have HC := Lib.hid hc
  clear h1 h2 h3 h4 hc
  unfold filCells
  go_enter Try.func111, Try.ntmps111
  go_upto_region 1 with fail
  refine wp_gen fun w1 hw1 => ?_
  have HX1 : Hid (Blk w1 w.heap.size (filCells x (.slice xla x.least.length xlc) (.slice xma x.most.length xmc)).toArray 42) := by rw [hw1]; exact (Blk.at_new rfl rfl).alloc _
  have HY1 : Hid (Blk w1 (w.heap.size + 1) (filCells y (.slice yla y.least.length ylc) (.slice yma y.most.length ymc)).toArray 42) := by rw [hw1]; exact blk_two _ _ _ _
  have HW1 : Hid (Below w.heap.size w w1) := by rw [hw1]; exact below_two _ _ _
  have y1 : w1.cell? ⟨ab, 0, none⟩ = some (.int .i64 lev) := by rw [hw1]; exact Lib.cell?_alloc_some _ (Lib.cell?_alloc_some _ HC.out)
  clear hw1
  generalize hyb : w.heap.size + 1 = yb at *
  clear hyb
  have x0 : w1.cell? ⟨w.heap.size, 0, none⟩ = some (.int .u64 x.num) := HX1.out.cell rfl
  have x2 : w1.cell? ⟨w.heap.size, 2, none⟩ = some (.slice xla x.least.length xlc) := HX1.out.cell rfl
  have y0 : w1.cell? ⟨yb, 0, none⟩ = some (.int .u64 y.num) := HY1.out.cell rfl
  have y2 : w1.cell? ⟨yb, 2, none⟩ = some (.slice yla y.least.length ylc) := HY1.out.cell rfl
  by_cases h0 : lev = 0
  · have HE : Hid (lessC lev x y = Ent.sgn x.num y.num) := by show _ = _; unfold lessC; rw [if_pos h0]
    subst h0
    go_wp2_with fail
    refine Calls.mono (cmpU64_any x.num y.num _) ?_
    rintro _ w2 ⟨rfl, rfl⟩
    go_wp2_with fail
    go_ret
    exact ⟨ret_int HE.out.symm, HW1.out⟩
  · have HE : Hid (lessC lev x y = Ent.bcmp x.least y.least) := by show _ = _; unfold lessC; rw [if_neg h0]
    go_wp2_with fail
    refine Calls.mono (bytesCompare_any _ _ _ _ x.least y.least _ (H1.out.below HW1.out) (H3.out.below HW1.out)) ?_
    rintro _ w2 ⟨rfl, rfl⟩
    go_wp2_with fail
    go_ret
    exact ⟨ret_int HE.out.symm, HW1.out⟩

set_option maxRecDepth 100000 in
set_option maxHeartbeats 2000000 in
theorem add2_any (F G F' G' : Nat → Prop) (lev : Int) (f x : Fil) (al am : Value) (la : Option Addr) (lc : Nat) (ma : Option Addr) (mc : Nat) (fb ab : Nat) (w : World) (hl : Bytes F w (.slice la x.least.length lc) x.least) (hm : Bytes G w (.slice ma x.most.length mc) x.most) (ha : Blk w ab (addCells lev f al am).toArray 104) (h1 : Bytes F' w al f.least) (h2 : Bytes G' w am f.most)
    (hfb : w.cell? ⟨fb, 0, none⟩ = some (.func (.func 111) #[] #[.pointer (some ⟨ab, 0, none⟩)])) :
    Calls Try.prog 112 #[.agg #[.int .u64 x.num, .int .i64 x.size, .slice la x.least.length lc, .slice ma x.most.length mc, .int .i64 x.ents, .int .u64 x.mseq], .pointer (some ⟨fb, 0, none⟩), .pointer (some ⟨ab, 0, none⟩)] w fun e w' => e = .returned (.bool (aheadOf lev f x)) ∧ Below w.heap.size w w' := by
  obtain ⟨ala, alc, rfl⟩ := h1.isSlice
  obtain ⟨ama, amc, rfl⟩ := h2.isSlice
  have HL := Lib.hid hl
  have HM := Lib.hid hm
  have HA := Lib.hid ha
  have HF := Lib.hid hfb
  have H1 := Lib.hid h1
  have H2 := Lib.hid h2
  clear hl hm ha hfb h1 h2
  go_enter Try.func112, Try.ntmps112
  go_upto_region 1 with fail
  refine wp_gen fun w1 hw1 => ?_
  have HX1 : Hid (Blk w1 w.heap.size (filCells x (.slice la x.least.length lc) (.slice ma x.most.length mc)).toArray 42) := by rw [hw1]; exact Blk.at_new rfl rfl
  have HW1 : Hid (Below w.heap.size w w1) := by rw [hw1]; exact (Below.refl _ _).alloc (Nat.le_refl _) _
  have HA1 := Lib.hid (HA.out.below HW1.out HA.out.lt)
  have y1 : w1.cell? ⟨fb, 0, none⟩ = some (.func (.func 111) #[] #[.pointer (some ⟨ab, 0, none⟩)]) := by rw [hw1]; exact Lib.cell?_alloc_some _ HF.out
  clear hw1
  have x0 : w1.cell? ⟨w.heap.size, 0, none⟩ = some (.int .u64 x.num) := HX1.out.cell rfl
  have x1 : w1.cell? ⟨w.heap.size, 1, none⟩ = some (.int .i64 x.size) := HX1.out.cell rfl
  have x2 : w1.cell? ⟨w.heap.size, 2, none⟩ = some (.slice la x.least.length lc) := HX1.out.cell rfl
  have x3 : w1.cell? ⟨w.heap.size, 3, none⟩ = some (.slice ma x.most.length mc) := HX1.out.cell rfl
  have x4 : w1.cell? ⟨w.heap.size, 4, none⟩ = some (.int .i64 x.ents) := HX1.out.cell rfl
  have x5 : w1.cell? ⟨w.heap.size, 5, none⟩ = some (.int .u64 x.mseq) := HX1.out.cell rfl
  have a0 : w1.cell? ⟨ab, 1, none⟩ = some (.int .u64 f.num) := HA1.out.cell rfl
  have a1 : w1.cell? ⟨ab, 2, none⟩ = some (.int .i64 f.size) := HA1.out.cell rfl
  have a2 : w1.cell? ⟨ab, 3, none⟩ = some (.slice ala f.least.length alc) := HA1.out.cell rfl
  have a3 : w1.cell? ⟨ab, 4, none⟩ = some (.slice ama f.most.length amc) := HA1.out.cell rfl
  have a4 : w1.cell? ⟨ab, 5, none⟩ = some (.int .i64 f.ents) := HA1.out.cell rfl
  have a5 : w1.cell? ⟨ab, 6, none⟩ = some (.int .u64 f.mseq) := HA1.out.cell rfl
  go_wp2_with fail
  clear x0 x1 x2 x3 x4 x5 a0 a1 a2 a3 a4 a5 y1
  refine Calls.mono (add1_any _ _ _ _ lev f x (.slice ala f.least.length alc) (.slice ama f.most.length amc) (.slice la x.least.length lc) (.slice ma x.most.length mc) ab _ (H1.out.below HW1.out) (H2.out.below HW1.out) (HL.out.below HW1.out) (HM.out.below HW1.out) (HA1.out.cell rfl)) ?_
  rintro _ w2 ⟨rfl, hb⟩
  have HW2 : Hid (Below w.heap.size w w2) := HW1.out.trans (hb.mono HW1.out.size)
  clear hb
  obtain ⟨c, hc⟩ : ∃ c, lessC lev f x = c := ⟨_, rfl⟩
  have HE : Hid (aheadOf lev f x = decide (c < 0)) := by show _ = _; unfold aheadOf; rw [hc]
  rw [hc]
  clear hc
  go_wp2_with fail
  go_ret
  exact ⟨ret_bool HE.out.symm, HW2.out⟩
theorem add2_bodied : Bodied 112 := fun _ _ => by kernel_rfl
theorem add2_asks (F G : Nat → Prop) (lev : Int) (f : Fil) (al am : Value) (fb ab : Nat) (l : List Fil) (w : World) (ha : Blk w ab (addCells lev f al am).toArray 104) (h1 : Bytes F w al f.least) (h2 : Bytes G w am f.most)
    (hfb : w.cell? ⟨fb, 0, none⟩ = some (.func (.func 111) #[] #[.pointer (some ⟨ab, 0, none⟩)])) :
    Asks 112 #[.pointer (some ⟨fb, 0, none⟩), .pointer (some ⟨ab, 0, none⟩)] (aheadOf lev f) l w := fun x la lc ma mc y _ hx hl hm =>
  add2_any _ _ _ _ lev f x al am la lc ma mc fb ab y hl hm (ha.below hx ha.lt) (h1.below hx) (h2.below hx) ((hx.cell (p := ⟨fb, 0, none⟩) (World.block_lt_of_cell? _ _ hfb)).trans hfb)
end Go.Proofs.Ytkcohhldmhdcfaa

namespace Go.Proofs.Ytkcohhldmhdcfaa
open Go.RowKit

/-- What add leaves. -/
def AddPost (D E : Nat → Prop) (A wb g : Nat) (files : List (List Fil)) (nx sq lg : Int) (w : World) (e : Ending) (w' : World) : Prop :=
  ∃ us', e = .returned (.tuple #[]) ∧ WorkAt D E A wb g us' files nx sq lg w' ∧ Wrote D w w'

set_option maxRecDepth 100000 in
set_option maxHeartbeats 8000000 in
theorem add_any (D E : Nat → Prop) (A wb g : Nat) (us : List Value) (files : List (List Fil)) (m : Nat) (f : Fil) (vl vm : Value) (nx sq lg : Int) (w : World) (h : WorkAt D E A wb g us files nx sq lg w) (hm5 : m < 5) (hfew : (lat files m).length < 100000)
    (h1 : Bytes (fun k => E k ∧ k < A) w vl f.least) (h2 : Bytes (fun k => E k ∧ k < A) w vm f.most) (hwf : f.wf) :
    Calls Try.prog 71 #[.pointer (some ⟨wb, 0, none⟩), .agg (addCells (m : Int) f vl vm).toArray] w (AddPost D E A wb g (addLs files m f) nx sq lg w) := by
  obtain ⟨vla, vlc, rfl⟩ := h1.isSlice
  obtain ⟨vma, vmc, rfl⟩ := h2.isSlice
  have HH := Lib.hid h
  have H1 := Lib.hid h1
  have H2 := Lib.hid h2
  have HWF := Lib.hid hwf
  clear h h1 h2 hwf
  unfold addCells filCells
  go_enter Try.func71, Try.ntmps71
  go_upto_region 2 with fail
  refine wp_gen fun w1 hw1 => ?_
  have HX1 : Hid (Blk w1 w.heap.size (addCells (m : Int) f (.slice vla f.least.length vlc) (.slice vma f.most.length vmc)).toArray 104) := by rw [hw1]; exact (Blk.at_new rfl rfl).alloc _
  have HF1 : Hid (w1.cell? ⟨w.heap.size + 1, 0, none⟩ = some (.func (.func 111) #[] #[.pointer (some ⟨w.heap.size, 0, none⟩)])) := by rw [hw1]; exact (blk_two _ _ _ _).cell rfl
  have HW1 : Hid (Below w.heap.size w w1) := by rw [hw1]; exact below_two _ _ _
  have HUD : Hid (∀ m, m < 5 → (uq us m).ownBlock ≠ some w.heap.size) := fun m hm e => by
    have := ((HH.out.fl.row m (by have := HH.out.five; omega)).lt _ e).2
    omega
  have HGD : Hid (g ≠ w.heap.size) := by
    have := (HH.out.fl.lt g rfl).2
    show g ≠ _
    omega
  have HWR : Hid (∀ w', Below w1.heap.size w1 w' → Wrote D w w') := fun w' hb => Wrote.of_below (HW1.out.trans (hb.mono HW1.out.size))
  have HH1 := Lib.hid (HH.out.below HW1.out)
  have H11 := Lib.hid (H1.out.below HW1.out)
  have H21 := Lib.hid (H2.out.below HW1.out)
  clear hw1 H1 H2 HW1
  generalize hfb : w.heap.size + 1 = fb at *
  generalize hab : w.heap.size = ab at *
  clear hfb hab
  obtain ⟨ra, rc, hru, hcm, hfm, hrow⟩ := HH1.out.level hm5
  obtain ⟨fs, hfs⟩ : ∃ fs, lat files m = fs := ⟨_, rfl⟩
  have HFS := Lib.hid hfs
  rw [hfs] at hru hcm hrow hfew
  obtain ⟨n, hn⟩ : ∃ n, fs.length = n := ⟨_, rfl⟩
  have HN := Lib.hid hn
  rw [hn] at hru hcm hrow hfew
  have HRU := Lib.hid hru
  have HCM := Lib.hid hcm
  have HCF := Lib.hid hfm
  have HROW := Lib.hid hrow
  have y0 : w1.cell? ⟨wb, 0, none⟩ = some (.slice (some ⟨g, 0, none⟩) 5 5) := HH1.out.blk.cell rfl
  have x0 : w1.cell? ⟨ab, 0, none⟩ = some (.int .i64 (m : Int)) := HX1.out.cell rfl
  have tm : (m : Int) < 5 := by omega
  have tm0 : 0 ≤ (m : Int) := by omega
  clear hfs hn hru hfm hrow
  go_quiet (fail)
  all_goals
    go_wp2_with fail
    clear y0 x0 hcm
    have hb1 : Below w1.heap.size w1 (w1.drewN nq) := below_dn (Below.refl _ _) _
    have hix := findex_any _ 112 #[.pointer (some ⟨fb, 0, none⟩), .pointer (some ⟨ab, 0, none⟩)] (aheadOf (m : Int) f) (.slice ra n rc) fs (w1.drewN nq) (HROW.out.below hb1).rows (by rw [HN.out]; omega) (add2_asks _ _ (m : Int) f (.slice vla f.least.length vlc) (.slice vma f.most.length vmc) fb ab fs (w1.drewN nq) HX1.out (H11.out.below hb1) (H21.out.below hb1) HF1.out) add2_bodied
    rw [HN.out] at hix
    refine Calls.mono hix ?_
    clear hix hb1
    rintro _ w3 ⟨j, hj, rfl, hb3⟩
    have hb3 : Below w1.heap.size w1 w3 := (below_dn (Below.refl _ _) nq).trans hb3
    obtain ⟨r, hr⟩ : ∃ r : Int, (if j < n then (j : Int) else -1) = r := ⟨_, rfl⟩
    rw [hr]
    have HRR := Lib.hid hr
    clear hr
    have HJ := Lib.hid hj
    have hjn := hj.le
    rw [HN.out] at hjn
    have HX3 := Lib.hid (HX1.out.below hb3 HX1.out.lt)
    have HH3 := Lib.hid (HH1.out.below hb3)
    have HW3 : Hid (Wrote D w w3) := HWR.out _ hb3
    have HCM3 : Hid (w3.cell? ⟨g, m, none⟩ = some (.slice ra n rc)) := (hb3.cell (p := ⟨g, m, none⟩) (World.block_lt_of_cell? _ _ HCM.out)).trans HCM.out
    have HCF3 : Hid (w3.frozen? ⟨g, m, none⟩ = false) := (hb3.frozen (p := ⟨g, m, none⟩) (World.block_lt_of_cell? _ _ HCM.out)).trans HCF.out
    have HROW3 := Lib.hid (HROW.out.below hb3)
    have HGL : Hid (g < w3.heap.size) := Nat.lt_of_lt_of_le (World.block_lt_of_cell? _ _ HCM.out) hb3.size
    have H13 := Lib.hid (H11.out.below hb3)
    have H23 := Lib.hid (H21.out.below hb3)
    clear hj hb3 HX1 HH1 HF1 HWR HROW HCM HCF H11 H21
    go_upto_if 21 with fail
    obtain ⟨bt, hbt⟩ : ∃ bt, decide (r < 0) = bt := ⟨_, rfl⟩
    rw [hbt]
    have HBT := Lib.hid hbt
    clear hbt
    go_cut [6] from 22 to 23 (fun x wx => x = .int .i64 (j : Int) ∧ w3 = wx)
    case first =>
      cases bt with
      | false =>
        have HR0 : Hid (r = (j : Int)) := by
          have h1 := HBT.out
          have h2 := HRR.out
          show _ = _
          split at h2
          · exact h2.symm
          · rw [← h2] at h1; cases h1
        go_wp2_with fail
        go_meet
        exact ⟨int_eq HR0.out, rfl⟩
      | true =>
        have HNJ : Hid ((n : Int) = (j : Int)) := by
          have h1 := HBT.out
          have h2 := HRR.out
          show _ = _
          split at h2
          · rw [← h2] at h1; simp at h1; omega
          · omega
        go_wp2_with fail
        go_meet
        exact ⟨int_eq HNJ.out, rfl⟩
    case rest =>
      obtain ⟨rfl, rfl⟩ := hcut
      clear HRR HBT
      obtain ⟨fs', hfs'⟩ : ∃ fs', insAt fs j f = fs' := ⟨_, rfl⟩
      have HFS' := Lib.hid hfs'
      have hxu : (uq us m).ownBlock ≠ some w3.heap.size := fun e => by
        rw [HRU.out] at e
        have := (HROW3.out.lt _ e).2
        omega
      have hlow : ∀ k, k < A → (Value.slice (some ⟨g, 0, none⟩) 5 5).ownBlock ≠ some k := fun k hk e => by have := (HH3.out.fl.lt k e).1; omega
      have hlow2 : ∀ k, k < A → ∀ i, i < us.length → (uq us i).ownBlock ≠ some k := fun k hk i hi e => by have := ((HH3.out.fl.row i hi).lt k e).1; omega
      have HU5 : Hid (m < us.length) := by have := HH3.out.five; show _ < _; omega
      have hb5 : Below w3.heap.size w3 (w3.drew.alloc (.cells #[.int .u64 f.num, .int .i64 f.size, .slice vla f.least.length vlc, .slice vma f.most.length vmc, .int .i64 f.ents, .int .u64 f.mseq] 42)) := below_al (below_drew (Below.refl _ _)) _
      have hins := fins_any (fun k => E k ∧ Free (.slice (some ⟨g, 0, none⟩) 5 5) us k) A (.slice ra n rc) fs j f (.slice vla f.least.length vlc) (.slice vma f.most.length vmc) w3.heap.size (w3.drew.alloc (.cells #[.int .u64 f.num, .int .i64 f.size, .slice vla f.least.length vlc, .slice vma f.most.length vmc, .int .i64 f.ents, .int .u64 f.mseq] 42)) (HROW3.out.below hb5) (by rw [HN.out]; exact hjn) (by rw [HN.out]; exact hfew) (Blk.at_new rfl rfl)
        ⟨_, _, rfl, (H13.out.below hb5).mono fun k _ hk => ⟨⟨hk.1, hlow k hk.2, hlow2 k hk.2⟩, by rw [← HRU.out]; exact hlow2 k hk.2 m HU5.out⟩, (H23.out.below hb5).mono fun k _ hk => ⟨⟨hk.1, hlow k hk.2, hlow2 k hk.2⟩, by rw [← HRU.out]; exact hlow2 k hk.2 m HU5.out⟩, HWF.out⟩
        (Nat.le_trans HH3.out.le hb5.size) (by rw [← HRU.out]; exact hxu)
      rw [hfs'] at hins
      have HINS := Lib.hid hins
      have HB5 := Lib.hid hb5
      have HKEEP : Hid (∀ (w w' : World), w'.heap[wb]? = w.heap[wb]? → w'.heap[ab]? = w.heap[ab]? → (w.cell? ⟨wb, 0, none⟩ = some (.slice (some ⟨g, 0, none⟩) 5 5) ∧ w.cell? ⟨ab, 0, none⟩ = some (.int .i64 (m : Int)) ∧ w.cell? ⟨ab, 1, none⟩ = some (.int .u64 f.num) ∧ w.cell? ⟨ab, 2, none⟩ = some (.int .i64 f.size) ∧ w.cell? ⟨ab, 3, none⟩ = some (.slice vla f.least.length vlc) ∧ w.cell? ⟨ab, 4, none⟩ = some (.slice vma f.most.length vmc) ∧ w.cell? ⟨ab, 5, none⟩ = some (.int .i64 f.ents) ∧ w.cell? ⟨ab, 6, none⟩ = some (.int .u64 f.mseq)) → (w'.cell? ⟨wb, 0, none⟩ = some (.slice (some ⟨g, 0, none⟩) 5 5) ∧ w'.cell? ⟨ab, 0, none⟩ = some (.int .i64 (m : Int)) ∧ w'.cell? ⟨ab, 1, none⟩ = some (.int .u64 f.num) ∧ w'.cell? ⟨ab, 2, none⟩ = some (.int .i64 f.size) ∧ w'.cell? ⟨ab, 3, none⟩ = some (.slice vla f.least.length vlc) ∧ w'.cell? ⟨ab, 4, none⟩ = some (.slice vma f.most.length vmc) ∧ w'.cell? ⟨ab, 5, none⟩ = some (.int .i64 f.ents) ∧ w'.cell? ⟨ab, 6, none⟩ = some (.int .u64 f.mseq))) := fun w w' e1 e2 h => by
        simp only [World.cell?_of_block (w := w) (w' := w') (a := ⟨wb, _, none⟩) e1, World.cell?_of_block (w := w) (w' := w') (a := ⟨ab, _, none⟩) e2]
        exact h
      have HS3 : Hid (w3.drew.cell? ⟨wb, 0, none⟩ = some (.slice (some ⟨g, 0, none⟩) 5 5) ∧ w3.drew.cell? ⟨ab, 0, none⟩ = some (.int .i64 (m : Int)) ∧ w3.drew.cell? ⟨ab, 1, none⟩ = some (.int .u64 f.num) ∧ w3.drew.cell? ⟨ab, 2, none⟩ = some (.int .i64 f.size) ∧ w3.drew.cell? ⟨ab, 3, none⟩ = some (.slice vla f.least.length vlc) ∧ w3.drew.cell? ⟨ab, 4, none⟩ = some (.slice vma f.most.length vmc) ∧ w3.drew.cell? ⟨ab, 5, none⟩ = some (.int .i64 f.ents) ∧ w3.drew.cell? ⟨ab, 6, none⟩ = some (.int .u64 f.mseq)) := ⟨HH3.out.blk.cell rfl, HX3.out.cell rfl, HX3.out.cell rfl, HX3.out.cell rfl, HX3.out.cell rfl, HX3.out.cell rfl, HX3.out.cell rfl, HX3.out.cell rfl⟩
      have HN1 : Hid (wb ≠ g) := fun e => HH3.out.out (by rw [e]; exact HH3.out.fl.da g rfl)
      clear hfs' hxu hlow hlow2 hb5 hins
      go_upto_region 6 with fail
      refine wp_region_held_drew (S := fun w' => (w'.cell? ⟨wb, 0, none⟩ = some (.slice (some ⟨g, 0, none⟩) 5 5) ∧ w'.cell? ⟨ab, 0, none⟩ = some (.int .i64 (m : Int)) ∧ w'.cell? ⟨ab, 1, none⟩ = some (.int .u64 f.num) ∧ w'.cell? ⟨ab, 2, none⟩ = some (.int .i64 f.size) ∧ w'.cell? ⟨ab, 3, none⟩ = some (.slice vla f.least.length vlc) ∧ w'.cell? ⟨ab, 4, none⟩ = some (.slice vma f.most.length vmc) ∧ w'.cell? ⟨ab, 5, none⟩ = some (.int .i64 f.ents) ∧ w'.cell? ⟨ab, 6, none⟩ = some (.int .u64 f.mseq))) (by kernel_rfl) (HS3.out) (fun hHeld => ?_)
      refine wpAnyH_take (i := 0) (oi := ?oR_0) (v := ?vR_0) ?eR_0 (by kernel_rfl) (by kernel_rfl) (by kernel_rfl) ?qR_0 (Or.inl ⟨?wR_0, ?yR_0⟩) (by assumption) ?rR_0
      case eR_0 => simp only [List.getElem?_toArray, List.getElem?_cons_zero]; rfl
      case wR_0 => rfl
      case qR_0 => exact fun _ _ _ h => h
      case yR_0 => (intro w hSw; (try dsimp only at hSw); go_simp; try with_reducible rfl)
      try simp only [Act.put, List.setIfInBounds_toArray, List.set_cons_zero, List.set_cons_succ]
      refine wpAnyH_take (i := 1) (oi := ?oR_1) (v := ?vR_1) ?eR_1 (by kernel_rfl) (by kernel_rfl) (by kernel_rfl) ?qR_1 (Or.inl ⟨?wR_1, ?yR_1⟩) (by assumption) ?rR_1
      case eR_1 => simp only [List.getElem?_toArray, List.getElem?_cons_succ, List.getElem?_cons_zero]; rfl
      case wR_1 => rfl
      case qR_1 => exact fun _ _ _ h => h
      case yR_1 => (intro w hSw; (try dsimp only at hSw); go_simp; try with_reducible rfl)
      try simp only [Act.put, List.setIfInBounds_toArray, List.set_cons_zero, List.set_cons_succ]
      refine wpAnyH_take (i := 2) (oi := ?oR_2) (v := ?vR_2) ?eR_2 (by kernel_rfl) (by kernel_rfl) (by kernel_rfl) ?qR_2 (Or.inl ⟨?wR_2, ?yR_2⟩) (by assumption) ?rR_2
      case eR_2 => simp only [List.getElem?_toArray, List.getElem?_cons_succ, List.getElem?_cons_zero]; rfl
      case wR_2 => rfl
      case qR_2 => exact fun _ _ _ h => h
      case yR_2 => (intro w hSw; (try dsimp only at hSw); go_simp; try with_reducible rfl)
      try simp only [Act.put, List.setIfInBounds_toArray, List.set_cons_zero, List.set_cons_succ]
      refine wpAnyH_take (i := 3) (oi := ?oR_3) (v := ?vR_3) ?eR_3 (by kernel_rfl) (by kernel_rfl) (by kernel_rfl) ?qR_3 (Or.inl ⟨?wR_3, ?yR_3⟩) (by assumption) ?rR_3
      case eR_3 => simp only [List.getElem?_toArray, List.getElem?_cons_succ, List.getElem?_cons_zero]; rfl
      case wR_3 => rfl
      case qR_3 => exact fun _ _ _ h => h
      case yR_3 => (intro w hSw; (try dsimp only at hSw); go_simp; try with_reducible rfl)
      try simp only [Act.put, List.setIfInBounds_toArray, List.set_cons_zero, List.set_cons_succ]
      refine wpAnyH_take (i := 4) (oi := ?oR_4) (v := ?vR_4) ?eR_4 (by kernel_rfl) (by kernel_rfl) (by kernel_rfl) ?qR_4 (Or.inl ⟨?wR_4, ?yR_4⟩) (by assumption) ?rR_4
      case eR_4 => simp only [List.getElem?_toArray, List.getElem?_cons_succ, List.getElem?_cons_zero]; rfl
      case wR_4 => rfl
      case qR_4 => exact fun _ _ _ h => h
      case yR_4 => (intro w hSw; (try dsimp only at hSw); go_simp; try with_reducible rfl)
      try simp only [Act.put, List.setIfInBounds_toArray, List.set_cons_zero, List.set_cons_succ]
      refine wpAnyH_take (i := 5) (oi := ?oR_5) (v := ?vR_5) ?eR_5 (by kernel_rfl) (by kernel_rfl) (by kernel_rfl) ?qR_5 (Or.inl ⟨?wR_5, ?yR_5⟩) (by assumption) ?rR_5
      case eR_5 => simp only [List.getElem?_toArray, List.getElem?_cons_succ, List.getElem?_cons_zero]; rfl
      case wR_5 => rfl
      case qR_5 => exact fun _ _ _ h => h
      case yR_5 => (intro w hSw; (try dsimp only at hSw); go_simp; try with_reducible rfl)
      try simp only [Act.put, List.setIfInBounds_toArray, List.set_cons_zero, List.set_cons_succ]
      refine wpAnyH_take (i := 6) (oi := ?oR_6) (v := ?vR_6) ?eR_6 (by kernel_rfl) (by kernel_rfl) (by kernel_rfl) ?qR_6 (Or.inl ⟨?wR_6, ?yR_6⟩) (by assumption) ?rR_6
      case eR_6 => simp only [List.getElem?_toArray, List.getElem?_cons_succ, List.getElem?_cons_zero]; rfl
      case wR_6 => rfl
      case qR_6 => exact fun _ _ _ h => h
      case yR_6 => (intro w hSw; (try dsimp only at hSw); go_simp; try with_reducible rfl)
      try simp only [Act.put, List.setIfInBounds_toArray, List.set_cons_zero, List.set_cons_succ]
      refine wpAnyH_take (i := 7) (oi := ?oR_7) (v := ?vR_7) ?eR_7 (by kernel_rfl) (by kernel_rfl) (by kernel_rfl) ?qR_7 (Or.inl ⟨?wR_7, ?yR_7⟩) (by assumption) ?rR_7
      case eR_7 => simp only [List.getElem?_toArray, List.getElem?_cons_succ, List.getElem?_cons_zero]; rfl
      case wR_7 => rfl
      case qR_7 => exact fun _ _ _ h => h
      case yR_7 => (intro w hSw; (try dsimp only at hSw); go_simp; try with_reducible rfl)
      try simp only [Act.put, List.setIfInBounds_toArray, List.set_cons_zero, List.set_cons_succ]
      refine wpAnyH_take (i := 8) (oi := ?oR_8) (v := ?vR_8) ?eR_8 (by kernel_rfl) (by kernel_rfl) (by kernel_rfl) ?qR_8 (Or.inl ⟨?wR_8, ?yR_8⟩) (by assumption) ?rR_8
      case eR_8 => simp only [List.getElem?_toArray, List.getElem?_cons_succ, List.getElem?_cons_zero]; rfl
      case wR_8 => rfl
      case qR_8 => exact fun _ _ _ h => h
      case yR_8 => (intro w hSw; (try dsimp only at hSw); go_simp; try with_reducible rfl)
      try simp only [Act.put, List.setIfInBounds_toArray, List.set_cons_zero, List.set_cons_succ]
      refine wpAnyH_take (i := 9) (oi := ?oR_9) (v := ?vR_9) ?eR_9 (by kernel_rfl) (by kernel_rfl) (by kernel_rfl) ?qR_9 (Or.inl ⟨?wR_9, ?yR_9⟩) (by assumption) ?rR_9
      case eR_9 => simp only [List.getElem?_toArray, List.getElem?_cons_succ, List.getElem?_cons_zero]; rfl
      case wR_9 => rfl
      case qR_9 => exact fun _ _ _ h => h
      case yR_9 => (intro w hSw; (try dsimp only at hSw); go_simp; try with_reducible rfl)
      try simp only [Act.put, List.setIfInBounds_toArray, List.set_cons_zero, List.set_cons_succ]
      refine wpAnyH_take (i := 10) (oi := ?oR_10) (v := ?vR_10) ?eR_10 (by kernel_rfl) (by kernel_rfl) (by kernel_rfl) ?qR_10 (Or.inl ⟨?wR_10, ?yR_10⟩) (by assumption) ?rR_10
      case eR_10 => simp only [List.getElem?_toArray, List.getElem?_cons_succ, List.getElem?_cons_zero]; rfl
      case wR_10 => rfl
      case qR_10 => exact fun _ _ _ h => h
      case yR_10 => (intro w hSw; (try dsimp only at hSw); go_simp; try with_reducible rfl)
      try simp only [Act.put, List.setIfInBounds_toArray, List.set_cons_zero, List.set_cons_succ]
      refine wpAnyH_ready (rs := [11]) (by kernel_rfl) (by simp) ?_
      refine AllReadyH.cons (o := ?oR_11) ?eR_11 (fun K hK => ?_) AllReadyH.nil
      case eR_11 => simp only [List.getElem?_toArray, List.getElem?_cons_succ, List.getElem?_cons_zero]; rfl
      go_simp
      skip
      try go_wp2_with fail
      refine hK.out _ _ (HKEEP.out w3.drew _ (HB5.out.block wb HH3.out.blk.lt) (HB5.out.block ab HX3.out.lt) HS3.out) (fun hHeld => ?_)
      clear hK
      try simp only [Act.put, List.setIfInBounds_toArray, List.set_cons_zero, List.set_cons_succ]
      refine wpAnyH_ready (rs := [12]) (by kernel_rfl) (by simp) ?_
      refine AllReadyH.cons (o := ?oR_12) ?eR_12 (fun K hK => ?_) AllReadyH.nil
      case eR_12 => simp only [List.getElem?_toArray, List.getElem?_cons_succ, List.getElem?_cons_zero]; rfl
      go_simp
      (go_at_call 113; refine Calls.mono HINS.out ?_; rintro _ w4 ⟨v4, rfl, ho4, hg4⟩; obtain ⟨a4, c4, rfl⟩ := ho4.isSlice; have z1 : w4.heap[wb]? = w3.heap[wb]? := (hg4.grown.block wb (Nat.lt_of_lt_of_le HH3.out.blk.lt HB5.out.size) (fun e => HH3.out.out (HH3.out.fl.dr m wb HU5.out (by rw [HRU.out]; exact e.symm)))).trans (HB5.out.block wb HH3.out.blk.lt); have z2 : w4.heap[ab]? = w3.heap[ab]? := (hg4.grown.block ab (Nat.lt_of_lt_of_le HX3.out.lt HB5.out.size) (fun e => HUD.out m hm5 (by rw [HRU.out]; exact e.symm))).trans (HB5.out.block ab HX3.out.lt); have z3 : w4.heap[g]? = w3.heap[g]? := (hg4.grown.block g (Nat.lt_of_lt_of_le HGL.out HB5.out.size) (fun e => HH3.out.fl.ne m g HU5.out (by rw [HRU.out]; exact e.symm) rfl)).trans (HB5.out.block g HGL.out); have hs4 := HKEEP.out w3.drew w4 z1 z2 HS3.out; have k4 : w4.cell? ⟨g, m, none⟩ = some (.slice ra n rc) := (World.cell?_of_block (w := w3) z3).trans HCM3.out; have f4 : w4.frozen? ⟨g, m, none⟩ = false := (frozen_of_block (w := w3) z3).trans HCF3.out; clear z1 z2 z3)
      try go_wp2_with fail
      refine hK.out _ _ (hs4) (fun hHeld => ?_)
      clear hK
      try simp only [Act.put, List.setIfInBounds_toArray, List.set_cons_zero, List.set_cons_succ]
      refine wpAnyH_take (i := 13) (oi := ?oR_13) (v := ?vR_13) ?eR_13 (by kernel_rfl) (by kernel_rfl) (by kernel_rfl) ?qR_13 (Or.inl ⟨?wR_13, ?yR_13⟩) (by assumption) ?rR_13
      case eR_13 => simp only [List.getElem?_toArray, List.getElem?_cons_succ, List.getElem?_cons_zero]; rfl
      case wR_13 => rfl
      case qR_13 => exact fun _ _ _ h => h
      case yR_13 => (intro w hSw; (try dsimp only at hSw); go_simp; try with_reducible rfl)
      try simp only [Act.put, List.setIfInBounds_toArray, List.set_cons_zero, List.set_cons_succ]
      refine wpAnyH_ready (rs := [14]) (by kernel_rfl) (by simp) ?_
      refine AllReadyH.cons (o := ?oR_14) ?eR_14 (fun K hK => ?_) AllReadyH.nil
      case eR_14 => simp only [List.getElem?_toArray, List.getElem?_cons_succ, List.getElem?_cons_zero]; rfl
      go_simp
      skip
      try go_wp2_with fail
      refine hK.out _ _ (HKEEP.out w4 _ (heap_setCell_other _ _ _ _ HN1.out) (heap_setCell_other _ _ _ _ (fun e => HGD.out e.symm)) hs4) (fun hHeld => ?_)
      clear hK
      try simp only [Act.put, List.setIfInBounds_toArray, List.set_cons_zero, List.set_cons_succ]
      refine wpAnyH_done (by kernel_rfl) ?_ _
      have HP : Hid (AddPost D E A wb g (addLs files m f) nx sq lg w (.returned (.tuple #[])) (w4.setCell ⟨g, m, none⟩ (.slice a4 fs'.length c4))) := by
        have hp : addLs files m f = files.set m fs' := by
          unfold addLs addTo
          rw [HFS.out, HJ.out.idx, HFS'.out]
        have hg5 := HH3.out.five
        have h3 := HH3.out.below HB5.out
        have hww : Wrote D (w3.drew.alloc (.cells #[.int .u64 f.num, .int .i64 f.size, .slice vla f.least.length vlc, .slice vma f.most.length vmc, .int .i64 f.ents, .int .u64 f.mseq] 42)) (w4.setCell ⟨g, m, none⟩ (.slice a4 fs'.length c4)) :=
          Wrote.setCell ⟨hg4.grown.os, hg4.grown.tape, hg4.grown.output, hg4.grown.size, fun k hk hn => hg4.grown.block k hk fun e => hn (HH3.out.fl.dr m k HU5.out (by rw [HRU.out]; exact e.symm))⟩ _ _ (.inl (HH3.out.fl.da g rfl))
        have hfl := h3.fl
        rw [← hg5] at hfl
        have hlast := Fw.last (m := m) (u' := .slice a4 fs'.length c4) (cur := fs') (w' := w4) hfl HU5.out (by rw [hg5]; exact ho4) (by rw [HRU.out]; exact hg4) rfl fun k hk => h3.new k hk
        rw [hg5] at hlast
        rw [hp]
        refine ⟨us.set m (.slice a4 fs'.length c4), rfl, ⟨h3.blk.same (hww.block _ h3.blk.lt h3.out), hlast, by rw [List.length_set]; exact hg5, h3.out, fun k hk => h3.new k (Nat.le_trans hww.size hk), Nat.le_trans h3.le hww.size⟩, HW3.out.trans ?_⟩
        exact (Wrote.of_below HB5.out).trans hww
      clear ho4 hg4 hs4 k4 f4 hHeld
      go_end0
      exact HP.out
end Go.Proofs.Ytkcohhldmhdcfaa
