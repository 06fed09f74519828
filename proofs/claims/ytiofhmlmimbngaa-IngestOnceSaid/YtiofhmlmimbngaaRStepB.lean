/- Chapter 19's document: Step takes a batch; Step hands a span on. -/
import Derived.Test.YtiofhmlmimbngaaRStep
namespace Go.Proofs.Ytiofhmlmimbngaa
open Go.RowKit

theorem rstepPost_end {lo hi b hb : Nat} {qb : Option Nat} {q : Iq} {what er : Nat} {s : Sp.T} {w w3 : World} {cs : List Value} (h : RIntk lo hi w3 b hb qb q) (hw : Wrote (fun k => k = b ∨ k = hb) w w3) (hhi : hi ≤ w3.heap.size)
    (hs : spanK.R (fr lo hi b hb qb) w3 cs s) :
    RStepPost lo b hb qb (what, s, er, q) w (.returned (.tuple #[.int .i64 what, .agg cs.toArray, .int .i64 er])) w3 :=
  ⟨_, rfl, spanK.mono hs fun _k _ hF => ⟨hF.1, Nat.lt_of_lt_of_le hF.2.1 hhi, hF.2.2⟩, h.up hhi (Nat.le_refl _), hw⟩

theorem rstepPost_put {lo hi b hb : Nat} {qb : Option Nat} {q : Iq} {what er z : Nat} {s : Sp.T} {w w3 : World} {cs cs' : List Value} (h : RIntk lo hi w3 b hb qb q) (hw : Wrote (fun k => k = b ∨ k = hb) w w3) (hz : w.heap.size ≤ z) (hhi : hi ≤ w.heap.size)
    (hs : spanK.R (fr lo hi b hb qb) w3 cs s) :
    RStepPost lo b hb qb (what, s, er, q) w (.returned (.tuple #[.int .i64 what, .agg cs.toArray, .int .i64 er])) (putAll w3 z cs' 0).drew := by
  have hb1 : Below hi w3 (putAll w3 z cs' 0).drew := below_drew (below_putAll (Nat.le_trans hhi hz) cs' 0 _ (Below.refl _ _))
  exact rstepPost_end (h.below hb1) (Wrote.putAll hz cs' 0 _ hw).drew (Nat.le_trans h.hi_le hb1.size) (spanK.keep hs fun k _ hF => hb1.block k hF.2.1)

set_option maxRecDepth 100000 in
set_option maxHeartbeats 2000000 in
theorem rstep_take (lo hi b hb : Nat) (qb : Option Nat) (q : Iq) (i : Nat) (l : List Sp.T) (ls : List (List Sp.T)) (w : World) (h : RIntk lo hi w b hb qb q) (hi1 : i < q.held.length) (h0 : q.held[i] = []) (h1 : q.queue = l :: ls) :
    Calls Try.prog 25 #[.pointer (some ⟨b, 0, none⟩), .int .i64 (i : Int)] w (RStepPost lo b hb qb (1, Sp.zero, 0, { q with first := q.first + 1, queue := ls, held := q.held.set i l }) w) := by
  have him : i < q.m := by rw [← h.m1]; exact hi1
  have HI := Lib.hid h
  clear h
  go_enter Try.func25, Try.ntmps25
  go_wp2_with fail
  refine calls_gen fun W1 hW1 => ?_
  have HW1 : Hid (Below w.heap.size w W1) := by rw [hW1]; exact (Below.refl _ _).alloc (Nat.le_refl _) _
  have HZ1 : Hid (Blk W1 w.heap.size zeroSpan 35) := by rw [hW1]; exact Blk.at_new rfl rfl
  clear hW1
  have HI1 : Hid (RIntk lo hi W1 b hb qb q) := HI.out.next_ HW1.out
  refine Calls.mono (rnone_false HI1.out) ?_
  rintro e w1 ⟨rfl, rfl⟩
  obtain ⟨qv, hbk, hqv⟩ := HI1.out.blk
  obtain ⟨qa, qc0, rfl⟩ := hqv.isSlice
  have kh : w1.cell? ⟨b, 4, none⟩ = some (.slice (some ⟨hb, 0, none⟩) q.m q.m) := hbk.cell rfl
  have kq : w1.cell? ⟨b, 3, none⟩ = some (.slice qa q.queue.length qc0) := hbk.cell rfl
  obtain ⟨v, kv, hv⟩ := HI1.out.row i hi1
  rw [h0] at hv
  obtain ⟨va, vc, rfl⟩ := hv.isSlice
  simp only [List.length_nil] at kv
  rw [h1] at hqv
  obtain ⟨g, off, cap, ov, e0, hcap, hcm, hgb, hgh, kg, hov, hqt⟩ := hqv.front
  injection e0 with e1 e2 e3
  subst e1 e3
  rw [h1, List.length_cons] at kq
  clear e2
  obtain ⟨oa, oc, rfl⟩ := hov.isSlice
  have HOV := Lib.hid hov
  have HQT := Lib.hid hqt
  have ht1 := fun w' => run_tail1 w' g off (ls.length + 1) qc0 (by omega) hcap hcm
  simp only [Nat.add_sub_cancel] at ht1
  have fv : w1.frozen? ⟨hb, i, none⟩ = false := by obtain ⟨hc, g1, _⟩ := HI1.out.held; exact g1.free i
  have fb : w1.frozen? ⟨b, 3, none⟩ = false := hbk.free 3
  have d2 : b ≠ hb := HI1.out.d2
  have d2' : hb ≠ b := fun e => d2 e.symm
  have hpos : (0 : Int) < ((ls.length + 1 : Nat) : Int) := by omega
  generalize (if qc0 = 1 then off else off + 1) = off' at *
  generalize hn1 : ls.length + 1 = n1 at *
  have hpos' : (0 : Int) < (n1 : Int) := by omega
  have hpos2 : 0 < n1 := by omega
  clear hv hbk hqv hov hqt hn1 hpos
  have hxx : decide ((i : Int) < 0) = false := by simp
  have hxy : decide ((q.m : Int) ≤ (i : Int)) = false := by simp; omega
  have hxi : (i : Int) < (q.m : Int) := by omega
  go_wp2_with fail
  go_region
  all_goals
    go_upto_region 12 with fail
    refine wp_gen fun w3 hw3 => ?_
    have HI3 : Hid (RIntk lo hi w3 b hb qb { q with first := q.first + 1, queue := ls, held := q.held.set i l }) := HI1.out.take h1 i hi1 HOV.out HQT.out (by rw [hw3]; rfl)
    have HZ3 : Hid (Blk w3 w.heap.size zeroSpan 35) := by
      have g1 := HI.out.hi_le
      have g2 := HI.out.u1
      have g3 := HI.out.u3
      rw [hw3]
      exact (HZ1.out.set_other _ _ (by show hb ≠ w.heap.size; omega)).drew.set_other _ _ (by show b ≠ w.heap.size; omega)
    have HR3 : Hid (Wrote (fun k => k = b ∨ k = hb) w w3) := by rw [hw3]; exact (((Wrote.of_below HW1.out).setCell _ _ (.inr rfl)).drew).setCell _ _ (.inl rfl)
    clear hw3 kh kq kv kg fv fb
    go_wp2_with (with_reducible refine pause_store ?_)
    refine Pause.go (wpList_store_agg rfl _ _ _ rfl w.heap.size 0 rfl zeroSpan rfl _ _ HZ3.out (by kernel_rfl) (by exact Nat.le_refl _) zero_one ?_)
    rw [show over zeroSpan 0 zeroSpan.toList = zeroSpan from over_all zeroSpan zeroSpan rfl]
    refine list_gen fun w4 hw4 => ?_
    have HZ4 : Hid (Blk w4 w.heap.size zeroSpan 35) := by rw [hw4]; exact HZ3.out.row _
    have HB4 : Hid (Below hi w3 w4) := by rw [hw4]; exact below_setRow (Below.refl _ _) HI.out.hi_le _
    have HR4 : Hid (Wrote (fun k => k = b ∨ k = hb) w w4) := by rw [hw4]; exact ⟨HR3.out.os, HR3.out.tape, HR3.out.output, by rw [size_setRow]; exact HR3.out.size, fun k hk hn => (setRow_other w3 w.heap.size k _ (by omega)).trans (HR3.out.block k hk hn)⟩
    clear hw4
    go_wp2_with fail
    refine bodyPost_ret (results_tmp_cell_tmp (p := 5) (t := 4) (u := 6) rfl _ _ w.heap.size 35 zeroSpan _ rfl HZ4.out Try.underlying35 rfl (by kernel_rfl)) rfl ?_
    exact rstepPost_end (cs := zeroSpan.toList) (HI3.out.below HB4.out) HR4.out (Nat.le_trans HI.out.hi_le HR4.out.size) (zero_is _ _)

set_option maxRecDepth 100000 in
set_option maxHeartbeats 2000000 in
theorem rstep_span (lo hi b hb : Nat) (qb : Option Nat) (q : Iq) (i : Nat) (s : Sp.T) (r : List Sp.T) (w : World) (h : RIntk lo hi w b hb qb q) (hi1 : i < q.held.length) (h0 : q.held[i] = s :: r) :
    Calls Try.prog 25 #[.pointer (some ⟨b, 0, none⟩), .int .i64 (i : Int)] w (RStepPost lo b hb qb (2, s, 0, { q with held := q.held.set i r }) w) := by
  have him : i < q.m := by rw [← h.m1]; exact hi1
  have HI := Lib.hid h
  clear h
  go_enter Try.func25, Try.ntmps25
  go_wp2_with fail
  refine calls_gen fun W1 hW1 => ?_
  have HW1 : Hid (Below w.heap.size w W1) := by rw [hW1]; exact (Below.refl _ _).alloc (Nat.le_refl _) _
  have HZ1 : Hid (Blk W1 w.heap.size zeroSpan 35) := by rw [hW1]; exact Blk.at_new rfl rfl
  clear hW1
  have HI1 : Hid (RIntk lo hi W1 b hb qb q) := HI.out.next_ HW1.out
  refine Calls.mono (rnone_false HI1.out) ?_
  rintro e w1 ⟨rfl, rfl⟩
  obtain ⟨qv, hbk, hqv⟩ := HI1.out.blk
  obtain ⟨qa, qc0, rfl⟩ := hqv.isSlice
  have kh : w1.cell? ⟨b, 4, none⟩ = some (.slice (some ⟨hb, 0, none⟩) q.m q.m) := hbk.cell rfl
  have kq : w1.cell? ⟨b, 3, none⟩ = some (.slice qa q.queue.length qc0) := hbk.cell rfl
  obtain ⟨v, kv, hv⟩ := HI1.out.row i hi1
  rw [h0] at hv
  have hxx : decide ((i : Int) < 0) = false := by simp
  have hxy : decide ((q.m : Int) ≤ (i : Int)) = false := by simp; omega
  have hxi : (i : Int) < (q.m : Int) := by omega
  obtain ⟨v2, hr, hv2⟩ := hv.slice_l under_spans size_span 1 (by simp)
  have HV2 : Hid (Rw spanK (fr lo hi b hb qb) w1 v2 r) := hv2
  obtain ⟨sa, sc, rfl⟩ := HV2.out.isSlice
  obtain ⟨sb, off, cap, rfl, hF, hsb, hcs⟩ := spans_at hv (by simp)
  obtain ⟨vt, ht, hc⟩ := hcs 0 (by simp)
  obtain ⟨ta, tc, rfl⟩ := ht.isSlice
  have HT : Hid (Rw tagK (fr lo hi b hb qb) w1 (.slice ta s.tags.length tc) s.tags) := ht
  have hc' : ∀ j u, (spanCells s (.slice ta s.tags.length tc))[j]? = some u → w1.cell? ⟨sb, off + j, none⟩ = some u := fun j u hj => by
    have := hc j u hj
    rwa [Nat.zero_mul, Nat.add_zero] at this
  clear hcs ht hc hv hv2
  have c0 := hc' 0 _ rfl
  have c1 := hc' 1 _ rfl
  have c2 := hc' 2 _ rfl
  have c3 := hc' 3 _ rfl
  have c4 := hc' 4 _ rfl
  have c5 := hc' 5 _ rfl
  have c6 := hc' 6 _ rfl
  have c7 := hc' 7 _ rfl
  have c8 := hc' 8 _ rfl
  have c9 := hc' 9 _ rfl
  have c10 := hc' 10 _ rfl
  rw [Nat.add_zero] at c0
  clear hc'
  have hr1 : ∀ w', (Instr.slice 37 (.slice (some ⟨sb, off, none⟩) (s :: r).length cap) (some (.int .i64 1)) none none).run Try.prog w' = .ok (.slice sa r.length sc) w' := hr
  obtain ⟨n, hn⟩ : ∃ n, n = (s :: r).length := ⟨_, rfl⟩
  have hn0 : 0 < n := by rw [hn]; simp
  have hn1 : (0 : Int) < (n : Int) := by omega
  rw [← hn] at kv hr1
  have fv : w1.frozen? ⟨hb, i, none⟩ = false := by obtain ⟨hc, g1, _⟩ := HI1.out.held; exact g1.free i
  have hlt3 : hb < w1.heap.size := by have := HI.out.u3; have := HI1.out.hi_le; omega
  have hltb : b < w1.heap.size := by have := HI.out.u1; have := HI1.out.hi_le; omega
  clear hr hn hbk hqv
  go_upto_region 7 with fail
  refine wp_gen fun w2 hw2 => ?_
  have HB2 : Hid (Below w1.heap.size w1 w2) := by rw [hw2]; exact (Below.refl _ _).alloc (Nat.le_refl _) _
  have HY2 : Hid (Blk w2 w1.heap.size (spanCells s (.slice ta s.tags.length tc)).toArray 35) := by rw [hw2]; exact Blk.at_new rfl rfl
  clear hw2 c0 c1 c2 c3 c4 c5 c6 c7 c8 c9 c10
  have HZ2 := Lib.hid (HZ1.out.below HB2.out HZ1.out.lt)
  have HI2 : Hid (RIntk lo hi w2 b hb qb q) := HI1.out.next_ HB2.out
  have HW2 : Hid (Below w.heap.size w w2) := HW1.out.trans (HB2.out.mono HW1.out.size)
  have HVr := Lib.hid (HV2.out.below HB2.out)
  have HTr := Lib.hid (HT.out.below HB2.out)
  have kv2 : w2.cell? ⟨hb, i, none⟩ = some (.slice (some ⟨sb, off, none⟩) n cap) := (World.cell?_of_block (HB2.out.block hb hlt3)).trans kv
  have kh2 : w2.cell? ⟨b, 4, none⟩ = some (.slice (some ⟨hb, 0, none⟩) q.m q.m) := (World.cell?_of_block (HB2.out.block b hltb)).trans kh
  have fv2 : w2.frozen? ⟨hb, i, none⟩ = false := by obtain ⟨hc, g1, _⟩ := HI2.out.held; exact g1.free i
  have hzy : w.heap.size < w1.heap.size := HZ1.out.lt
  generalize w1.heap.size = Y at *
  clear kv kh fv kq HV2 HT HZ1 HI1 HW1
  go_region
  all_goals
    go_upto_region 8 with fail
    refine wp_gen fun w3 hw3 => ?_
    have HI3 : Hid (RIntk lo hi w3 b hb qb { q with held := q.held.set i r }) := HI2.out.pop i hi1 h0 HVr.out (by rw [hw3]; rfl)
    have HZ3 : Hid (Blk w3 w.heap.size zeroSpan 35) := by
      have g1 := HI.out.hi_le
      have g3 := HI.out.u3
      rw [hw3]
      exact (HZ2.out.set_other _ _ (by show hb ≠ w.heap.size; omega)).drew
    have HY3 : Hid (Blk w3 Y (spanCells s (.slice ta s.tags.length tc)).toArray 35) := by
      rw [hw3]
      exact (HY2.out.set_other _ _ (by show hb ≠ Y; omega)).drew
    have HR3 : Hid (Wrote (fun k => k = b ∨ k = hb) w w3) := by rw [hw3]; exact ((Wrote.of_below HW2.out).setCell _ _ (.inr rfl)).drew
    have HT3 : Hid (Rw tagK (fr lo hi b hb qb) w3 (.slice ta s.tags.length tc) s.tags) := by
      rw [hw3]
      exact HTr.out.keep fun k _ hF => heap_setCell_other _ _ _ _ (by show k ≠ hb; exact hF.2.2.2.1)
    clear hw3 kv2 kh2 fv2
    have k0 : w3.cell? ⟨w.heap.size, 0, none⟩ = some (.int .u64 0) := HZ3.out.cell rfl
    have f0 := HZ3.out.free 0
    have k1 : w3.cell? ⟨w.heap.size, 1, none⟩ = some (.int .u64 0) := HZ3.out.cell rfl
    have f1 := HZ3.out.free 1
    have k2 : w3.cell? ⟨w.heap.size, 2, none⟩ = some (.int .u64 0) := HZ3.out.cell rfl
    have f2 := HZ3.out.free 2
    have k3 : w3.cell? ⟨w.heap.size, 3, none⟩ = some (.int .u64 0) := HZ3.out.cell rfl
    have f3 := HZ3.out.free 3
    have k4 : w3.cell? ⟨w.heap.size, 4, none⟩ = some (.string ⟨#[]⟩) := HZ3.out.cell rfl
    have f4 := HZ3.out.free 4
    have k5 : w3.cell? ⟨w.heap.size, 5, none⟩ = some (.string ⟨#[]⟩) := HZ3.out.cell rfl
    have f5 := HZ3.out.free 5
    have k6 : w3.cell? ⟨w.heap.size, 6, none⟩ = some (.int .i64 0) := HZ3.out.cell rfl
    have f6 := HZ3.out.free 6
    have k7 : w3.cell? ⟨w.heap.size, 7, none⟩ = some (.int .i64 0) := HZ3.out.cell rfl
    have f7 := HZ3.out.free 7
    have k8 : w3.cell? ⟨w.heap.size, 8, none⟩ = some (.int .i64 0) := HZ3.out.cell rfl
    have f8 := HZ3.out.free 8
    have k9 : w3.cell? ⟨w.heap.size, 9, none⟩ = some (.bool false) := HZ3.out.cell rfl
    have f9 := HZ3.out.free 9
    have k10 : w3.cell? ⟨w.heap.size, 10, none⟩ = some (.slice none 0 0) := HZ3.out.cell rfl
    have f10 := HZ3.out.free 10
    have y0 : w3.cell? ⟨Y, 0, none⟩ = some (.int .u64 s.hi) := HY3.out.cell rfl
    have fy0 := HY3.out.free 0
    have y1 : w3.cell? ⟨Y, 1, none⟩ = some (.int .u64 s.lo) := HY3.out.cell rfl
    have fy1 := HY3.out.free 1
    have y2 : w3.cell? ⟨Y, 2, none⟩ = some (.int .u64 s.id) := HY3.out.cell rfl
    have fy2 := HY3.out.free 2
    have y3 : w3.cell? ⟨Y, 3, none⟩ = some (.int .u64 s.parent) := HY3.out.cell rfl
    have fy3 := HY3.out.free 3
    have y4 : w3.cell? ⟨Y, 4, none⟩ = some (.string s.service) := HY3.out.cell rfl
    have fy4 := HY3.out.free 4
    have y5 : w3.cell? ⟨Y, 5, none⟩ = some (.string s.name) := HY3.out.cell rfl
    have fy5 := HY3.out.free 5
    have y6 : w3.cell? ⟨Y, 6, none⟩ = some (.int .i64 s.kind) := HY3.out.cell rfl
    have fy6 := HY3.out.free 6
    have y7 : w3.cell? ⟨Y, 7, none⟩ = some (.int .i64 s.start) := HY3.out.cell rfl
    have fy7 := HY3.out.free 7
    have y8 : w3.cell? ⟨Y, 8, none⟩ = some (.int .i64 s.length) := HY3.out.cell rfl
    have fy8 := HY3.out.free 8
    have y9 : w3.cell? ⟨Y, 9, none⟩ = some (.bool s.fails) := HY3.out.cell rfl
    have fy9 := HY3.out.free 9
    have y10 : w3.cell? ⟨Y, 10, none⟩ = some (.slice ta s.tags.length tc) := HY3.out.cell rfl
    have fy10 := HY3.out.free 10
    go_region_with (fail)
    all_goals
      go_wp2_with fail
      refine bodyPost_ret (results_tmp_cell_tmp (p := 5) (t := 4) (u := 6) rfl _ _ w.heap.size 35 (spanCells s (.slice ta s.tags.length tc)).toArray _ rfl ?_ Try.underlying35 rfl (by kernel_rfl)) rfl ?_
      · exact Blk.drew (Blk.putAll (spanCells s (.slice ta s.tags.length tc)) 0 _ _ _ HZ3.out rfl (by exact Nat.le_refl _))
      · exact rstepPost_put (cs' := spanCells s (.slice ta s.tags.length tc)) HI3.out HR3.out (Nat.le_refl _) HI.out.hi_le ⟨_, rfl, HT3.out⟩
end Go.Proofs.Ytiofhmlmimbngaa
