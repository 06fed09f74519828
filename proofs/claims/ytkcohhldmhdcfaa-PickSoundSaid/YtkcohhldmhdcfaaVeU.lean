/- Chapter 12: (*version.work).add. -/
import Derived.Test.YtkcohhldmhdcfaaVeT
namespace Go.Proofs.Ytkcohhldmhdcfaa
open Go.RowKit

/-- The order on a level. -/
def lessC (lev : Int) (a x : Fil) : Int := if lev = 0 then Ent.sgn a.num x.num else Ent.bcmp a.least x.least
def aheadOf (lev : Int) (a x : Fil) : Bool := decide (lessC lev a x < 0)
/-- A file put onto a level. -/
def addTo (l : List Fil) (lev : Int) (f : Fil) : List Fil := insAt l (l.findIdx (aheadOf lev f)) f
def addLs (ls : List (List Fil)) (m : Nat) (f : Fil) : List (List Fil) := ls.set m (addTo (lat ls m) (m : Int) f)
def addCells (lev : Int) (f : Fil) (vl vm : Value) : List Value := .int .i64 lev :: filCells f vl vm

set_option maxRecDepth 100000 in
set_option maxHeartbeats 2000000 in
theorem add1_any (F G F' G' : Nat → Prop) (lev : Int) (x y : Fil) (xl xm yl ym : Value) (ab : Nat) (w : World) (h1 : Bytes F w xl x.least) (h2 : Bytes F' w xm x.most) (h3 : Bytes G w yl y.least) (h4 : Bytes G' w ym y.most) (hc : w.cell? ⟨ab, 0, none⟩ = some (.int .i64 lev)) :
    Calls Try.prog 111 #[.agg (filCells x xl xm).toArray, .agg (filCells y yl ym).toArray, .pointer (some ⟨ab, 0, none⟩)] w fun e w' => e = .returned (.int .i64 (lessC lev x y)) ∧ Below w.heap.size w w' := by
  obtain ⟨xla, xlc, rfl⟩ := h1.isSlice
  obtain ⟨xma, xmc, rfl⟩ := h2.isSlice
  obtain ⟨yla, ylc, rfl⟩ := h3.isSlice
  obtain ⟨yma, ymc, rfl⟩ := h4.isSlice
  have H1 := Lib.hid h1
  have H3 := Lib.hid h3
  have HC := Lib.hid hc
  clear h1 h2 h3 h4 hc
  unfold filCells
  go_enter Try.func111, Try.ntmps111
  go_upto_region 1 with fail
  refine wp_gen fun w1 hw1 => ?_
  have HX1 : Hid (Blk w1 w.heap.size (filCells x (.slice xla x.least.length xlc) (.slice xma x.most.length xmc)).toArray 42) := by rw [hw1]; exact (Blk.at_new rfl rfl).alloc _
  have HY1 : Hid (Blk w1 (w.heap.size + 1) (filCells y (.slice yla y.least.length ylc) (.slice yma y.most.length ymc)).toArray 42) := by rw [hw1]; exact blk_two _ _ _ _
  have HW1 : Hid (Below w.heap.size w w1) := by rw [hw1]; exact below_two _ _ _
  have y1 : w1.cell? ⟨ab, 0, none⟩ = some (.int .i64 lev) := by rw [hw1]; exact Lib.cell?_alloc_some _ (Lib.cell?_alloc_some _ HC.out)
  clear hw1
  generalize hyb : w.heap.size + 1 = yb at *
  clear hyb
  have x0 : w1.cell? ⟨w.heap.size, 0, none⟩ = some (.int .u64 x.num) := HX1.out.cell rfl
  have x2 : w1.cell? ⟨w.heap.size, 2, none⟩ = some (.slice xla x.least.length xlc) := HX1.out.cell rfl
  have y0 : w1.cell? ⟨yb, 0, none⟩ = some (.int .u64 y.num) := HY1.out.cell rfl
  have y2 : w1.cell? ⟨yb, 2, none⟩ = some (.slice yla y.least.length ylc) := HY1.out.cell rfl
  by_cases h0 : lev = 0
  · have HE : Hid (lessC lev x y = Ent.sgn x.num y.num) := by show _ = _; unfold lessC; rw [if_pos h0]
    subst h0
    go_wp2_with fail
    refine Calls.mono (cmpU64_any x.num y.num _) ?_
    rintro _ w2 ⟨rfl, rfl⟩
    go_wp2_with fail
    go_ret
    exact ⟨ret_int HE.out.symm, HW1.out⟩
  · have HE : Hid (lessC lev x y = Ent.bcmp x.least y.least) := by show _ = _; unfold lessC; rw [if_neg h0]
    go_wp2_with fail
    refine Calls.mono (bytesCompare_any _ _ _ _ x.least y.least _ (H1.out.below HW1.out) (H3.out.below HW1.out)) ?_
    rintro _ w2 ⟨rfl, rfl⟩
    go_wp2_with fail
    go_ret
    exact ⟨ret_int HE.out.symm, HW1.out⟩

set_option maxRecDepth 100000 in
set_option maxHeartbeats 2000000 in
theorem add2_any (F G F' G' : Nat → Prop) (lev : Int) (f x : Fil) (al am : Value) (la : Option Addr) (lc : Nat) (ma : Option Addr) (mc : Nat) (fb ab : Nat) (w : World) (hl : Bytes F w (.slice la x.least.length lc) x.least) (hm : Bytes G w (.slice ma x.most.length mc) x.most) (ha : Blk w ab (addCells lev f al am).toArray 104) (h1 : Bytes F' w al f.least) (h2 : Bytes G' w am f.most)
    (hfb : w.cell? ⟨fb, 0, none⟩ = some (.func (.func 111) #[] #[.pointer (some ⟨ab, 0, none⟩)])) :
    Calls Try.prog 112 #[.agg #[.int .u64 x.num, .int .i64 x.size, .slice la x.least.length lc, .slice ma x.most.length mc, .int .i64 x.ents, .int .u64 x.mseq], .pointer (some ⟨fb, 0, none⟩), .pointer (some ⟨ab, 0, none⟩)] w fun e w' => e = .returned (.bool (aheadOf lev f x)) ∧ Below w.heap.size w w' := by
  obtain ⟨ala, alc, rfl⟩ := h1.isSlice
  obtain ⟨ama, amc, rfl⟩ := h2.isSlice
  have HL := Lib.hid hl
  have HM := Lib.hid hm
  have HA := Lib.hid ha
  have HF := Lib.hid hfb
  have H1 := Lib.hid h1
  have H2 := Lib.hid h2
  clear hl hm ha hfb h1 h2
  go_enter Try.func112, Try.ntmps112
  go_upto_region 1 with fail
  refine wp_gen fun w1 hw1 => ?_
  have HX1 : Hid (Blk w1 w.heap.size (filCells x (.slice la x.least.length lc) (.slice ma x.most.length mc)).toArray 42) := by rw [hw1]; exact Blk.at_new rfl rfl
  have HW1 : Hid (Below w.heap.size w w1) := by rw [hw1]; exact (Below.refl _ _).alloc (Nat.le_refl _) _
  have HA1 := Lib.hid (HA.out.below HW1.out HA.out.lt)
  have y1 : w1.cell? ⟨fb, 0, none⟩ = some (.func (.func 111) #[] #[.pointer (some ⟨ab, 0, none⟩)]) := by rw [hw1]; exact Lib.cell?_alloc_some _ HF.out
  clear hw1
  have x0 : w1.cell? ⟨w.heap.size, 0, none⟩ = some (.int .u64 x.num) := HX1.out.cell rfl
  have x1 : w1.cell? ⟨w.heap.size, 1, none⟩ = some (.int .i64 x.size) := HX1.out.cell rfl
  have x2 : w1.cell? ⟨w.heap.size, 2, none⟩ = some (.slice la x.least.length lc) := HX1.out.cell rfl
  have x3 : w1.cell? ⟨w.heap.size, 3, none⟩ = some (.slice ma x.most.length mc) := HX1.out.cell rfl
  have x4 : w1.cell? ⟨w.heap.size, 4, none⟩ = some (.int .i64 x.ents) := HX1.out.cell rfl
  have x5 : w1.cell? ⟨w.heap.size, 5, none⟩ = some (.int .u64 x.mseq) := HX1.out.cell rfl
  have a0 : w1.cell? ⟨ab, 1, none⟩ = some (.int .u64 f.num) := HA1.out.cell rfl
  have a1 : w1.cell? ⟨ab, 2, none⟩ = some (.int .i64 f.size) := HA1.out.cell rfl
  have a2 : w1.cell? ⟨ab, 3, none⟩ = some (.slice ala f.least.length alc) := HA1.out.cell rfl
  have a3 : w1.cell? ⟨ab, 4, none⟩ = some (.slice ama f.most.length amc) := HA1.out.cell rfl
  have a4 : w1.cell? ⟨ab, 5, none⟩ = some (.int .i64 f.ents) := HA1.out.cell rfl
  have a5 : w1.cell? ⟨ab, 6, none⟩ = some (.int .u64 f.mseq) := HA1.out.cell rfl
  go_wp2_with fail
  clear x0 x1 x2 x3 x4 x5 a0 a1 a2 a3 a4 a5 y1
  refine Calls.mono (add1_any _ _ _ _ lev f x (.slice ala f.least.length alc) (.slice ama f.most.length amc) (.slice la x.least.length lc) (.slice ma x.most.length mc) ab _ (H1.out.below HW1.out) (H2.out.below HW1.out) (HL.out.below HW1.out) (HM.out.below HW1.out) (HA1.out.cell rfl)) ?_
  rintro _ w2 ⟨rfl, hb⟩
  have HW2 : Hid (Below w.heap.size w w2) := HW1.out.trans (hb.mono HW1.out.size)
  clear hb
  obtain ⟨c, hc⟩ : ∃ c, lessC lev f x = c := ⟨_, rfl⟩
  have HE : Hid (aheadOf lev f x = decide (c < 0)) := by show _ = _; unfold aheadOf; rw [hc]
  rw [hc]
  clear hc
  go_wp2_with fail
  go_ret
  exact ⟨ret_bool HE.out.symm, HW2.out⟩
theorem add2_bodied : Bodied 112 := fun _ _ => by kernel_rfl
theorem add2_asks (F G : Nat → Prop) (lev : Int) (f : Fil) (al am : Value) (fb ab : Nat) (l : List Fil) (w : World) (ha : Blk w ab (addCells lev f al am).toArray 104) (h1 : Bytes F w al f.least) (h2 : Bytes G w am f.most)
    (hfb : w.cell? ⟨fb, 0, none⟩ = some (.func (.func 111) #[] #[.pointer (some ⟨ab, 0, none⟩)])) :
    Asks 112 #[.pointer (some ⟨fb, 0, none⟩), .pointer (some ⟨ab, 0, none⟩)] (aheadOf lev f) l w := fun x la lc ma mc y _ hx hl hm =>
  add2_any _ _ _ _ lev f x al am la lc ma mc fb ab y hl hm (ha.below hx ha.lt) (h1.below hx) (h2.below hx) ((hx.cell (p := ⟨fb, 0, none⟩) (World.block_lt_of_cell? _ _ hfb)).trans hfb)
end Go.Proofs.Ytkcohhldmhdcfaa
