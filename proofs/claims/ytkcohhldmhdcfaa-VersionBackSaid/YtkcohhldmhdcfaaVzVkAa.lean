/- The kit's File and Files, of the same files. The kit's Files, of the same files. The kit's Job, of the same jobs. Chapter 14's document: Next, plain. -/
import Derived.Test.YtkcohhldmhdcfaaVzPkQa
namespace Go.Proofs.Ytkcohhldmhdcfaa
open Go.RowKit

set_option maxRecDepth 100000 in
set_option maxHeartbeats 2000000 in
theorem kfile_same (F G F' G' : Nat → Prop) (f : Fil) (al am bl bm : Value) (w : World) (h1 : Bytes F w al f.least) (h2 : Bytes G w am f.most) (h3 : Bytes F' w bl f.least) (h4 : Bytes G' w bm f.most) :
    Calls Try.prog 86 #[.agg (filCells f al am).toArray, .agg (filCells f bl bm).toArray] w fun e w' => e = .returned (.bool true) ∧ Below w.heap.size w w' := by
  obtain ⟨xa1, xc1, rfl⟩ := h1.isSlice
  obtain ⟨xa2, xc2, rfl⟩ := h2.isSlice
  obtain ⟨xa3, xc3, rfl⟩ := h3.isSlice
  obtain ⟨xa4, xc4, rfl⟩ := h4.isSlice
  have H1 := Lib.hid h1
  have H2 := Lib.hid h2
  have H3 := Lib.hid h3
  have H4 := Lib.hid h4
  clear h1 h2 h3 h4
  unfold filCells
  go_enter Try.func86, Try.ntmps86
  go_upto_region 1 with fail
  refine wp_gen fun w1 hw1 => ?_
  have HA1 : Hid (Blk w1 w.heap.size (filCells f (.slice xa1 f.least.length xc1) (.slice xa2 f.most.length xc2)).toArray 42) := by rw [hw1]; exact (Blk.at_new rfl rfl).alloc _
  have HB1 : Hid (Blk w1 (w.heap.size + 1) (filCells f (.slice xa3 f.least.length xc3) (.slice xa4 f.most.length xc4)).toArray 42) := by rw [hw1]; exact blk_two _ _ _ _
  have HW1 : Hid (Below w.heap.size w w1) := by rw [hw1]; exact below_two _ _ _
  clear hw1
  obtain ⟨c0, c1, c2, c3, c4, c5⟩ := C6.blk HA1.out
  obtain ⟨d0, d1, d2, d3, d4, d5⟩ := C6.blk HB1.out
  go_wp2_with fail
  clear c0 c1 c2 c3 c4 c5 d0 d1 d2 d3 d4 d5
  refine Calls.mono (kbytes_at (b := true) _ _ _ f.least _ f.least w1 (H1.out.below HW1.out) (H3.out.below HW1.out) (by simp)) ?_
  rintro _ w2 ⟨rfl, hb⟩
  have hb := below_drewN hb
  have HW2 : Hid (Below w.heap.size w w2) := HW1.out.trans (hb.mono HW1.out.size)
  obtain ⟨-, -, -, c3, -, -⟩ := C6.blk (HA1.out.below hb HA1.out.lt)
  obtain ⟨-, -, -, d3, -, -⟩ := C6.blk (HB1.out.below hb HB1.out.lt)
  clear hb
  go_wp2_with fail
  clear c3 d3
  refine Calls.mono (kbytes_at (b := true) _ _ _ f.most _ f.most w2 (H2.out.below HW2.out) (H4.out.below HW2.out) (by simp)) ?_
  rintro _ w3 ⟨rfl, hb⟩
  have HW3 : Hid (Below w.heap.size w w3) := HW2.out.trans ((below_drewN hb).mono HW2.out.size)
  clear hb
  go_wp2_with fail
  go_ret
  exact ⟨rfl, HW3.out⟩
end Go.Proofs.Ytkcohhldmhdcfaa

namespace Go.Proofs.Ytkcohhldmhdcfaa
open Go.RowKit

set_option maxRecDepth 100000 in
set_option maxHeartbeats 2000000 in
theorem kfiles_same (F G : Nat → Prop) (va vb : Value) (l : List Fil) (w : World) (h1 : Rw filK F w va l) (h2 : Rw filK G w vb l) (hfew : l.length ≤ 1000000) :
    Calls Try.prog 43 #[va, vb] w fun e w' => e = .returned (.bool true) ∧ Below w.heap.size w w' := by
  obtain ⟨xa, xc, rfl⟩ := h1.isSlice
  obtain ⟨ya, yc, rfl⟩ := h2.isSlice
  have H1 := Lib.hid h1
  have H2 := Lib.hid h2
  obtain ⟨n, hn⟩ : ∃ n, l.length = n := ⟨_, rfl⟩
  have HN := Lib.hid hn
  rw [hn] at H1 H2 hfew ⊢
  clear h1 h2 hn
  go_enter Try.func43, Try.ntmps43
  go_wp2_with fail
  go_loopw [5] (fun kv wr => ∃ k : Nat, kv = .int .i64 (k : Int) ∧ k ≤ n ∧ Hid (Below w.heap.size w wr)) (fun kv _ => n - (intOf kv).toNat)
  case atStart => exact ⟨0, rfl, by omega, Below.refl _ _⟩
  case round =>
    obtain ⟨k, rfl, hk, HB⟩ := hrel
    by_cases hkn : k < n
    · have u1 : (k : Int) < (n : Int) := by omega
      have u2 : 0 ≤ (k : Int) := by omega
      have hD : Below w.heap.size w wr.drew := below_drew HB.out
      obtain ⟨b1, o1, rfl, pa, pc, qa, qc, g1, g2, g6⟩ := file_at (H1.out.below hD) HN.out hkn
      obtain ⟨b2, o2, rfl, ra, rc, sa, sc, k1, k2, k6⟩ := file_at (H2.out.below hD) HN.out hkn
      obtain ⟨f, hf⟩ : ∃ f, fat l k = f := ⟨_, rfl⟩
      rw [hf] at g1 g2 g6 k1 k2 k6
      have HG1 := Lib.hid g1
      have HG2 := Lib.hid g2
      have HK1 := Lib.hid k1
      have HK2 := Lib.hid k2
      obtain ⟨c0, c1, c2, c3, c4, c5⟩ := g6
      obtain ⟨d0, d1, d2, d3, d4, d5⟩ := k6
      clear g1 g2 k1 k2 hf hD
      go_upto_region 6 with fail
      go_still_tail 8, (by kernel_rfl)
      change wpList _ _ _ _ _ wr.drew
      go_wp2_with fail
      clear c0 c1 c2 c3 c4 c5 d0 d1 d2 d3 d4 d5
      refine Calls.mono (kfile_same _ _ _ _ f _ _ _ _ wr.drew HG1.out HG2.out HK1.out HK2.out) ?_
      rintro _ w3 ⟨rfl, hb⟩
      have HB3 : Hid (Below w.heap.size w w3) := HB.out.trans ((below_of_drew hb).mono HB.out.size)
      clear hb
      go_wp2_with fail
      go_roundw
      · exact ⟨k + 1, by go_num, by omega, HB3.out⟩
      · simp only [intOf]; omega
    · have u1 : ¬ (k : Int) < (n : Int) := by omega
      go_wp2_with fail
      go_ret
      exact ⟨rfl, HB.out⟩
end Go.Proofs.Ytkcohhldmhdcfaa

namespace Go.Proofs.Ytkcohhldmhdcfaa
open Go.RowKit

end Go.Proofs.Ytkcohhldmhdcfaa

namespace Go.Proofs.Ytkcohhldmhdcfaa
open Go.RowKit

end Go.Proofs.Ytkcohhldmhdcfaa
