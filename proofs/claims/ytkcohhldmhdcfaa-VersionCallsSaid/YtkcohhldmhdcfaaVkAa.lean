/- The kit's File and Files, of the same files. The kit's Files, of the same files. The kit's Job, of the same jobs. Chapter 14's document: Next, plain. -/
import Derived.Test.YtkcohhldmhdcfaaVfEa
namespace Go.Proofs.Ytkcohhldmhdcfaa
open Go.RowKit

set_option maxRecDepth 100000 in
set_option maxHeartbeats 2000000 in
theorem kfile_same (F G F' G' : Nat → Prop) (f : Fil) (al am bl bm : Value) (w : World) (h1 : Bytes F w al f.least) (h2 : Bytes G w am f.most) (h3 : Bytes F' w bl f.least) (h4 : Bytes G' w bm f.most) :
    Calls Try.prog 86 #[.agg (filCells f al am).toArray, .agg (filCells f bl bm).toArray] w fun e w' => e = .returned (.bool true) ∧ Below w.heap.size w w' := by
  obtain ⟨xa1, xc1, rfl⟩ := h1.isSlice
  obtain ⟨xa2, xc2, rfl⟩ := h2.isSlice
  obtain ⟨xa3, xc3, rfl⟩ := h3.isSlice
  obtain ⟨xa4, xc4, rfl⟩ := h4.isSlice
  have H1 := Lib.hid h1
  have H2 := Lib.hid h2
  have H3 := Lib.hid h3
  have H4 := Lib.hid h4
  clear h1 h2 h3 h4
  unfold filCells
  go_enter Try.func86, Try.ntmps86
  go_upto_region 1 with fail
  refine wp_gen fun w1 hw1 => ?_
  have HA1 : Hid (Blk w1 w.heap.size (filCells f (.slice xa1 f.least.length xc1) (.slice xa2 f.most.length xc2)).toArray 42) := by rw [hw1]; exact (Blk.at_new rfl rfl).alloc _
  have HB1 : Hid (Blk w1 (w.heap.size + 1) (filCells f (.slice xa3 f.least.length xc3) (.slice xa4 f.most.length xc4)).toArray 42) := by rw [hw1]; exact blk_two _ _ _ _
  have HW1 : Hid (Below w.heap.size w w1) := by rw [hw1]; exact below_two _ _ _
  clear hw1
  obtain ⟨c0, c1, c2, c3, c4, c5⟩ := C6.blk HA1.out
  obtain ⟨d0, d1, d2, d3, d4, d5⟩ := C6.blk HB1.out
  go_wp2_with fail
  clear c0 c1 c2 c3 c4 c5 d0 d1 d2 d3 d4 d5
  refine Calls.mono (kbytes_at (b := true) _ _ _ f.least _ f.least w1 (H1.out.below HW1.out) (H3.out.below HW1.out) (by simp)) ?_
  rintro _ w2 ⟨rfl, hb⟩
  have hb := below_drewN hb
  have HW2 : Hid (Below w.heap.size w w2) := HW1.out.trans (hb.mono HW1.out.size)
  obtain ⟨-, -, -, c3, -, -⟩ := C6.blk (HA1.out.below hb HA1.out.lt)
  obtain ⟨-, -, -, d3, -, -⟩ := C6.blk (HB1.out.below hb HB1.out.lt)
  clear hb
  go_wp2_with fail
  clear c3 d3
  refine Calls.mono (kbytes_at (b := true) _ _ _ f.most _ f.most w2 (H2.out.below HW2.out) (H4.out.below HW2.out) (by simp)) ?_
  rintro _ w3 ⟨rfl, hb⟩
  have HW3 : Hid (Below w.heap.size w w3) := HW2.out.trans ((below_drewN hb).mono HW2.out.size)
  clear hb
  go_wp2_with fail
  go_ret
  exact ⟨rfl, HW3.out⟩
end Go.Proofs.Ytkcohhldmhdcfaa

namespace Go.Proofs.Ytkcohhldmhdcfaa
open Go.RowKit

set_option maxRecDepth 100000 in
set_option maxHeartbeats 2000000 in
theorem kfiles_same (F G : Nat → Prop) (va vb : Value) (l : List Fil) (w : World) (h1 : Rw filK F w va l) (h2 : Rw filK G w vb l) (hfew : l.length ≤ 1000000) :
    Calls Try.prog 43 #[va, vb] w fun e w' => e = .returned (.bool true) ∧ Below w.heap.size w w' := by
  obtain ⟨xa, xc, rfl⟩ := h1.isSlice
  obtain ⟨ya, yc, rfl⟩ := h2.isSlice
  have H1 := Lib.hid h1
  have H2 := Lib.hid h2
  obtain ⟨n, hn⟩ : ∃ n, l.length = n := ⟨_, rfl⟩
  have HN := Lib.hid hn
  rw [hn] at H1 H2 hfew ⊢
  clear h1 h2 hn
  go_enter Try.func43, Try.ntmps43
  go_wp2_with fail
  go_loopw [5] (fun kv wr => ∃ k : Nat, kv = .int .i64 (k : Int) ∧ k ≤ n ∧ Hid (Below w.heap.size w wr)) (fun kv _ => n - (intOf kv).toNat)
  case atStart => exact ⟨0, rfl, by omega, Below.refl _ _⟩
  case round =>
    obtain ⟨k, rfl, hk, HB⟩ := hrel
    by_cases hkn : k < n
    · have u1 : (k : Int) < (n : Int) := by omega
      have u2 : 0 ≤ (k : Int) := by omega
      have hD : Below w.heap.size w wr.drew := below_drew HB.out
      obtain ⟨b1, o1, rfl, pa, pc, qa, qc, g1, g2, g6⟩ := file_at (H1.out.below hD) HN.out hkn
      obtain ⟨b2, o2, rfl, ra, rc, sa, sc, k1, k2, k6⟩ := file_at (H2.out.below hD) HN.out hkn
      obtain ⟨f, hf⟩ : ∃ f, fat l k = f := ⟨_, rfl⟩
      rw [hf] at g1 g2 g6 k1 k2 k6
      have HG1 := Lib.hid g1
      have HG2 := Lib.hid g2
      have HK1 := Lib.hid k1
      have HK2 := Lib.hid k2
      obtain ⟨c0, c1, c2, c3, c4, c5⟩ := g6
      obtain ⟨d0, d1, d2, d3, d4, d5⟩ := k6
      clear g1 g2 k1 k2 hf hD
      go_upto_region 6 with fail
      go_still_tail 8, (by kernel_rfl)
      change wpList _ _ _ _ _ wr.drew
      go_wp2_with fail
      clear c0 c1 c2 c3 c4 c5 d0 d1 d2 d3 d4 d5
      refine Calls.mono (kfile_same _ _ _ _ f _ _ _ _ wr.drew HG1.out HG2.out HK1.out HK2.out) ?_
      rintro _ w3 ⟨rfl, hb⟩
      have HB3 : Hid (Below w.heap.size w w3) := HB.out.trans ((below_of_drew hb).mono HB.out.size)
      clear hb
      go_wp2_with fail
      go_roundw
      · exact ⟨k + 1, by go_num, by omega, HB3.out⟩
      · simp only [intOf]; omega
    · have u1 : ¬ (k : Int) < (n : Int) := by omega
      go_wp2_with fail
      go_ret
      exact ⟨rfl, HB.out⟩
end Go.Proofs.Ytkcohhldmhdcfaa

namespace Go.Proofs.Ytkcohhldmhdcfaa
open Go.RowKit

/-- What a job's cells tell. -/
structure JobAt (F : Nat → Prop) (w : World) (U Lo : List Fil) (ls ms : List UInt8) (u lo le mo : Value) : Prop where
  u : Rw filK F w u U
  lo : Rw filK F w lo Lo
  le : Bytes F w le ls
  mo : Bytes F w mo ms
theorem JobAt.below {F : Nat → Prop} {w w' : World} {U Lo : List Fil} {ls ms : List UInt8} {u lo le mo : Value} (h : JobAt F w U Lo ls ms u lo le mo) (hb : Below w.heap.size w w') : JobAt F w' U Lo ls ms u lo le mo := ⟨h.u.below hb, h.lo.below hb, h.le.below hb, h.mo.below hb⟩
set_option maxRecDepth 100000 in
set_option maxHeartbeats 4000000 in
theorem kjob_same (F G : Nat → Prop) (lev : Int) (b : Bool) (U Lo : List Fil) (ls ms : List UInt8) (u lo le mo u' lo' le' mo' : Value) (w : World) (h1 : JobAt F w U Lo ls ms u lo le mo) (h2 : JobAt G w U Lo ls ms u' lo' le' mo') (hU : U.length ≤ 1000000) (hLo : Lo.length ≤ 1000000) :
    Calls Try.prog 23 #[.agg (jobC lev u lo le mo b).toArray, .agg (jobC lev u' lo' le' mo' b).toArray] w fun e w' => e = .returned (.bool true) ∧ Below w.heap.size w w' := by
  obtain ⟨a1, c1, rfl⟩ := h1.u.isSlice
  obtain ⟨a2, c2, rfl⟩ := h1.lo.isSlice
  obtain ⟨a3, c3, rfl⟩ := h1.le.isSlice
  obtain ⟨a4, c4, rfl⟩ := h1.mo.isSlice
  obtain ⟨a5, c5, rfl⟩ := h2.u.isSlice
  obtain ⟨a6, c6, rfl⟩ := h2.lo.isSlice
  obtain ⟨a7, c7, rfl⟩ := h2.le.isSlice
  obtain ⟨a8, c8, rfl⟩ := h2.mo.isSlice
  have H1 := Lib.hid h1
  have H2 := Lib.hid h2
  clear h1 h2
  unfold jobC
  go_enter Try.func23, Try.ntmps23
  go_upto_region 1 with fail
  refine wp_gen fun w1 hw1 => ?_
  have HA : Hid (Blk w1 w.heap.size (jobC lev (.slice a1 U.length c1) (.slice a2 Lo.length c2) (.slice a3 ls.length c3) (.slice a4 ms.length c4) b).toArray 36) := by rw [hw1]; exact (Blk.at_new rfl rfl).alloc _
  have HB : Hid (Blk w1 (w.heap.size + 1) (jobC lev (.slice a5 U.length c5) (.slice a6 Lo.length c6) (.slice a7 ls.length c7) (.slice a8 ms.length c8) b).toArray 36) := by rw [hw1]; exact blk_two _ _ _ _
  have HW1 : Hid (Below w.heap.size w w1) := by rw [hw1]; exact below_two _ _ _
  clear hw1
  have HCA : Hid (∀ W, Below w1.heap.size w1 W → W.cell? ⟨w.heap.size, 0, none⟩ = some (.int .i64 lev) ∧ W.cell? ⟨w.heap.size, 1, none⟩ = some (.slice a1 U.length c1) ∧ W.cell? ⟨w.heap.size, 2, none⟩ = some (.slice a2 Lo.length c2) ∧ W.cell? ⟨w.heap.size, 3, none⟩ = some (.slice a3 ls.length c3) ∧ W.cell? ⟨w.heap.size, 4, none⟩ = some (.slice a4 ms.length c4) ∧ W.cell? ⟨w.heap.size, 5, none⟩ = some (.bool b)) := fun W hb => ⟨(HA.out.below hb HA.out.lt).cell rfl, (HA.out.below hb HA.out.lt).cell rfl, (HA.out.below hb HA.out.lt).cell rfl, (HA.out.below hb HA.out.lt).cell rfl, (HA.out.below hb HA.out.lt).cell rfl, (HA.out.below hb HA.out.lt).cell rfl⟩
  have HCB : Hid (∀ W, Below w1.heap.size w1 W → W.cell? ⟨w.heap.size + 1, 0, none⟩ = some (.int .i64 lev) ∧ W.cell? ⟨w.heap.size + 1, 1, none⟩ = some (.slice a5 U.length c5) ∧ W.cell? ⟨w.heap.size + 1, 2, none⟩ = some (.slice a6 Lo.length c6) ∧ W.cell? ⟨w.heap.size + 1, 3, none⟩ = some (.slice a7 ls.length c7) ∧ W.cell? ⟨w.heap.size + 1, 4, none⟩ = some (.slice a8 ms.length c8) ∧ W.cell? ⟨w.heap.size + 1, 5, none⟩ = some (.bool b)) := fun W hb => ⟨(HB.out.below hb HB.out.lt).cell rfl, (HB.out.below hb HB.out.lt).cell rfl, (HB.out.below hb HB.out.lt).cell rfl, (HB.out.below hb HB.out.lt).cell rfl, (HB.out.below hb HB.out.lt).cell rfl, (HB.out.below hb HB.out.lt).cell rfl⟩
  obtain ⟨x0, x1, x2, x3, x4, x5⟩ := HCA.out w1 (Below.refl _ _)
  obtain ⟨y0, y1, y2, y3, y4, y5⟩ := HCB.out w1 (Below.refl _ _)
  cases b <;> (
    go_wp2_with fail
    clear x0 x1 x2 x3 x4 x5 y0 y1 y2 y3 y4 y5
    refine Calls.mono (kfiles_same _ _ _ _ U w1 (H1.out.u.below HW1.out) (H2.out.u.below HW1.out) hU) ?_
    rintro _ w2 ⟨rfl, hb⟩
    have D2 : Hid (Below w1.heap.size w1 w2) := hb
    have W2 : Hid (Below w.heap.size w w2) := HW1.out.trans (D2.out.mono HW1.out.size)
    clear hb
    obtain ⟨-, -, x2, x3, x4, -⟩ := HCA.out w2 D2.out
    obtain ⟨-, -, y2, y3, y4, -⟩ := HCB.out w2 D2.out
    go_wp2_with fail
    clear x2 x3 x4 y2 y3 y4
    refine Calls.mono (kfiles_same _ _ _ _ Lo w2 (H1.out.lo.below W2.out) (H2.out.lo.below W2.out) hLo) ?_
    rintro _ w3 ⟨rfl, hb⟩
    have D3 : Hid (Below w1.heap.size w1 w3) := D2.out.trans (hb.mono D2.out.size)
    have W3 : Hid (Below w.heap.size w w3) := HW1.out.trans (D3.out.mono HW1.out.size)
    clear hb
    obtain ⟨-, -, -, x3, x4, -⟩ := HCA.out w3 D3.out
    obtain ⟨-, -, -, y3, y4, -⟩ := HCB.out w3 D3.out
    go_wp2_with fail
    clear x3 x4 y3 y4
    refine Calls.mono (kbytes_at (b := true) _ _ _ ls _ ls w3 (H1.out.le.below W3.out) (H2.out.le.below W3.out) (by simp)) ?_
    rintro _ w4 ⟨rfl, hb⟩
    have D4 : Hid (Below w1.heap.size w1 w4) := D3.out.trans ((below_drewN hb).mono D3.out.size)
    have W4 : Hid (Below w.heap.size w w4) := HW1.out.trans (D4.out.mono HW1.out.size)
    clear hb
    obtain ⟨-, -, -, -, x4, -⟩ := HCA.out w4 D4.out
    obtain ⟨-, -, -, -, y4, -⟩ := HCB.out w4 D4.out
    go_wp2_with fail
    clear x4 y4
    refine Calls.mono (kbytes_at (b := true) _ _ _ ms _ ms w4 (H1.out.mo.below W4.out) (H2.out.mo.below W4.out) (by simp)) ?_
    rintro _ w5 ⟨rfl, hb⟩
    have W5 : Hid (Below w.heap.size w w5) := W4.out.trans ((below_drewN hb).mono W4.out.size)
    clear hb
    go_wp2_with fail
    go_ret
    exact ⟨rfl, W5.out⟩)
end Go.Proofs.Ytkcohhldmhdcfaa

namespace Go.Proofs.Ytkcohhldmhdcfaa
open Go.RowKit

theorem scoreW_nonneg {v : Ver} {s : Stp} (i : Nat) (hs : stpW s = 0) : 0 ≤ scoreW v s i := by
  unfold scoreW
  split
  · exact Int.le_refl _
  · rename_i hb
    have h1 := boundW_some hb
    have h2 := (boundW_pos hs h1.2.1 h1.2.2).1
    refine Int.ediv_nonneg ?_ (by omega)
    have := (bytesOfLev_le (v := v) (i : Int)).1
    split <;> omega
/-- The level with the greatest score so far has that score. -/
theorem worst_score {v : Ver} {s : Stp} (hs : stpW s = 0) : ∀ k, scoreW v s (worstTo v s (k + 1)).1 = (worstTo v s (k + 1)).2
  | 0 => by
    have h0 := scoreW_nonneg (v := v) (s := s) 0 hs
    rw [worstTo]
    split
    · rfl
    · rename_i h
      have h : ¬ (0 : Int) < scoreW v s 0 := h
      show scoreW v s 0 = 0
      omega
  | k + 1 => by
    have ih := worst_score (v := v) hs k
    rw [worstTo]
    split
    · rfl
    · exact ih
theorem worst_next {v : Ver} {s : Stp} (hs : stpW s = 0) (k : Nat) : (worstTo v s (k + 2)).1 = if scoreW v s (worstTo v s (k + 1)).1 < scoreW v s (k + 1) then k + 1 else (worstTo v s (k + 1)).1 := by
  rw [worst_score hs k]
  show (if (worstTo v s (k + 1)).2 < scoreW v s (k + 1) then (k + 1, scoreW v s (k + 1)) else worstTo v s (k + 1)).1 = _
  split <;> rfl
theorem worst_one {v : Ver} {s : Stp} : (worstTo v s 1).1 = 0 := by
  rw [worstTo]
  split <;> rfl
end Go.Proofs.Ytkcohhldmhdcfaa
