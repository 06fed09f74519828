/- The intake: Step hands a span on. -/
import Derived.Test.YtiofhmlmimbngaaIntakeE
namespace Go.Proofs.Ytiofhmlmimbngaa
open Go.RowKit

theorem under_spans : Try.prog.underlying 37 = some (.slice (Try.prog.elem 37)) := by kernel_rfl
theorem size_span : (Try.prog.info? (Try.prog.elem 37)).map (·.size) = some spanK.sz := by kernel_rfl

set_option maxRecDepth 100000 in
set_option maxHeartbeats 2000000 in
theorem step_span {X : Nat → Prop} (lo hi b rb hb : Nat) (q : Iq) (i : Nat) (s : Sp.T) (r : List Sp.T) (w : World) (h : Intk X lo hi w b rb hb q) (hi1 : i < q.held.length) (h0 : q.held[i] = s :: r) :
    Calls Try.prog 12 #[.pointer (some ⟨b, 0, none⟩), .int .i64 (i : Int)] w (StepPost X lo b rb hb (2, s, 0, { q with held := q.held.set i r }) w) := by
  have him : i < q.m := by rw [← h.m1]; exact hi1
  have HI := Lib.hid h
  clear h
  go_enter Try.func12, Try.ntmps12
  go_wp2_with fail
  refine calls_gen fun W1 hW1 => ?_
  have HW1 : Hid (Below w.heap.size w W1) := by rw [hW1]; exact (Below.refl _ _).alloc (Nat.le_refl _) _
  have HZ1 : Hid (Blk W1 w.heap.size zeroSpan 35) := by rw [hW1]; exact Blk.at_new rfl rfl
  clear hW1
  have HI1 : Hid (Intk X lo hi W1 b rb hb q) := HI.out.next_ HW1.out
  refine Calls.mono (none_false HI1.out) ?_
  rintro e w1 ⟨rfl, rfl⟩
  have kh : w1.cell? ⟨b, 3, none⟩ = some (.slice (some ⟨hb, 0, none⟩) q.m q.m) := HI1.out.blk.cell rfl
  have kf : w1.cell? ⟨b, 1, none⟩ = some (.int .i64 (q.first : Int)) := HI1.out.blk.cell rfl
  have kn : w1.cell? ⟨b, 2, none⟩ = some (.int .i64 (q.next : Int)) := HI1.out.blk.cell rfl
  obtain ⟨v, kv, hv⟩ := HI1.out.row i hi1
  rw [h0] at hv
  have hxx : decide ((i : Int) < 0) = false := by simp
  have hxy : decide ((q.m : Int) ≤ (i : Int)) = false := by simp; omega
  have hxi : (i : Int) < (q.m : Int) := by omega
  obtain ⟨v2, hr, hv2⟩ := hv.slice_l under_spans size_span 1 (by simp)
  have HV2 : Hid (Rw spanK (ft X lo hi b rb hb) w1 v2 r) := hv2
  obtain ⟨sa, sc, rfl⟩ := HV2.out.isSlice
  obtain ⟨sb, off, cap, rfl, hF, hsb, hcs⟩ := spans_at hv (by simp)
  obtain ⟨vt, ht, hc⟩ := hcs 0 (by simp)
  obtain ⟨ta, tc, rfl⟩ := ht.isSlice
  have HT : Hid (Rw tagK (ft X lo hi b rb hb) w1 (.slice ta s.tags.length tc) s.tags) := ht
  have hc' : ∀ j u, (spanCells s (.slice ta s.tags.length tc))[j]? = some u → w1.cell? ⟨sb, off + j, none⟩ = some u := fun j u hj => by
    have := hc j u hj
    rwa [Nat.zero_mul, Nat.add_zero] at this
  clear hcs ht hc hv hv2
  have c0 := hc' 0 _ rfl
  have c1 := hc' 1 _ rfl
  have c2 := hc' 2 _ rfl
  have c3 := hc' 3 _ rfl
  have c4 := hc' 4 _ rfl
  have c5 := hc' 5 _ rfl
  have c6 := hc' 6 _ rfl
  have c7 := hc' 7 _ rfl
  have c8 := hc' 8 _ rfl
  have c9 := hc' 9 _ rfl
  have c10 := hc' 10 _ rfl
  rw [Nat.add_zero] at c0
  clear hc'
  have hr1 : ∀ w', (Instr.slice 37 (.slice (some ⟨sb, off, none⟩) (s :: r).length cap) (some (.int .i64 1)) none none).run Try.prog w' = .ok (.slice sa r.length sc) w' := hr
  obtain ⟨n, hn⟩ : ∃ n, n = (s :: r).length := ⟨_, rfl⟩
  have hn0 : 0 < n := by rw [hn]; simp
  have hn1 : (0 : Int) < (n : Int) := by omega
  rw [← hn] at kv hr1
  clear hr hn
  go_wp2_with (with_reducible refine pause_store ?_)
  refine Pause.go (wpList_store_agg rfl _ _ _ rfl w.heap.size 0 rfl (spanCells s (.slice ta s.tags.length tc)).toArray rfl _ _ HZ1.out (by kernel_rfl) (by exact Nat.le_refl _) (spanCells_one s rfl) ?_)
  rw [show over zeroSpan 0 (spanCells s (.slice ta s.tags.length tc)).toArray.toList = (spanCells s (.slice ta s.tags.length tc)).toArray from over_all zeroSpan (spanCells s (.slice ta s.tags.length tc)).toArray rfl]
  refine list_gen fun w2 hw2 => ?_
  have HZ2 : Hid (Blk w2 w.heap.size (spanCells s (.slice ta s.tags.length tc)).toArray 35) := by rw [hw2]; exact HZ1.out.row _
  have HW2 : Hid (Below w.heap.size w w2) := by rw [hw2]; exact below_setRow HW1.out (Nat.le_refl _) _
  have HB2 : Hid (Below hi w1 w2) := by rw [hw2]; exact below_setRow (Below.refl _ _) HI.out.hi_le _
  clear hw2 kh kf kn c0 c1 c2 c3 c4 c5 c6 c7 c8 c9 c10
  have HI2 : Hid (Intk X lo hi w2 b rb hb q) := HI.out.next_ HW2.out
  have HVr : Hid (Rw spanK (ft X lo hi b rb hb) w2 (.slice sa r.length sc) r) := HV2.out.keep fun k _ hF => HB2.out.block k hF.2.1
  have HTr : Hid (Rw tagK (ft X lo hi b rb hb) w2 (.slice ta s.tags.length tc) s.tags) := HT.out.keep fun k _ hF => HB2.out.block k hF.2.1
  have kv2 : w2.cell? ⟨hb, i, none⟩ = some (.slice (some ⟨sb, off, none⟩) n cap) := (World.cell?_of_block (HB2.out.block hb HI.out.u3)).trans kv
  have fv : w2.frozen? ⟨hb, i, none⟩ = false := by obtain ⟨hc, g1, _⟩ := HI2.out.held; exact g1.free i
  clear kv
  go_wp2_with fail
  refine wp_gen fun w3 hw3 => ?_
  have HI3 : Hid (Intk X lo hi w3 b rb hb { q with held := q.held.set i r }) := HI2.out.pop i hi1 h0 HVr.out (by rw [hw3])
  have HZ3 : Hid (Blk w3 w.heap.size (spanCells s (.slice ta s.tags.length tc)).toArray 35) := by
    have g1 := HI.out.hi_le
    have g3 := HI.out.u3
    rw [hw3]
    exact HZ2.out.set_other _ _ (by show hb ≠ w.heap.size; omega)
  have HR3 : Hid (Wrote (fun k => k = b ∨ k = hb) w w3) := by rw [hw3]; exact (Wrote.of_below HW2.out).setCell _ _ (.inr rfl)
  have HT3 : Hid (Rw tagK (ft X lo hi b rb hb) w3 (.slice ta s.tags.length tc) s.tags) := by
    rw [hw3]
    exact HTr.out.keep fun k _ hF => heap_setCell_other _ _ _ _ (by show k ≠ hb; exact hF.2.2.2.2.1)
  clear hw3 kv2 fv
  have k0 : w3.cell? ⟨w.heap.size, 0, none⟩ = some (.int .u64 s.hi) := HZ3.out.cell rfl
  have f0 := HZ3.out.free 0
  have k1 : w3.cell? ⟨w.heap.size, 1, none⟩ = some (.int .u64 s.lo) := HZ3.out.cell rfl
  have f1 := HZ3.out.free 1
  have k2 : w3.cell? ⟨w.heap.size, 2, none⟩ = some (.int .u64 s.id) := HZ3.out.cell rfl
  have f2 := HZ3.out.free 2
  have k3 : w3.cell? ⟨w.heap.size, 3, none⟩ = some (.int .u64 s.parent) := HZ3.out.cell rfl
  have f3 := HZ3.out.free 3
  have k4 : w3.cell? ⟨w.heap.size, 4, none⟩ = some (.string s.service) := HZ3.out.cell rfl
  have f4 := HZ3.out.free 4
  have k5 : w3.cell? ⟨w.heap.size, 5, none⟩ = some (.string s.name) := HZ3.out.cell rfl
  have f5 := HZ3.out.free 5
  have k6 : w3.cell? ⟨w.heap.size, 6, none⟩ = some (.int .i64 s.kind) := HZ3.out.cell rfl
  have f6 := HZ3.out.free 6
  have k7 : w3.cell? ⟨w.heap.size, 7, none⟩ = some (.int .i64 s.start) := HZ3.out.cell rfl
  have f7 := HZ3.out.free 7
  have k8 : w3.cell? ⟨w.heap.size, 8, none⟩ = some (.int .i64 s.length) := HZ3.out.cell rfl
  have f8 := HZ3.out.free 8
  have k9 : w3.cell? ⟨w.heap.size, 9, none⟩ = some (.bool s.fails) := HZ3.out.cell rfl
  have f9 := HZ3.out.free 9
  have k10 : w3.cell? ⟨w.heap.size, 10, none⟩ = some (.slice ta s.tags.length tc) := HZ3.out.cell rfl
  have f10 := HZ3.out.free 10
  go_region_with (fail)
  all_goals
    go_wp2_with fail
    refine bodyPost_ret (results_tmp_cell_tmp (p := 5) (t := 4) (u := 6) rfl _ _ w.heap.size 35 (spanCells s (.slice ta s.tags.length tc)).toArray _ rfl ?_ Try.underlying35 rfl (by kernel_rfl)) rfl ?_
    · exact Blk.drew (Blk.putAll (spanCells s (.slice ta s.tags.length tc)) 0 _ _ _ HZ3.out rfl (by exact Nat.le_refl _))
    · exact stepPost_end (cs := spanCells s (.slice ta s.tags.length tc)) (cs' := spanCells s (.slice ta s.tags.length tc)) HI3.out HR3.out (Nat.le_refl _) HI.out.hi_le ⟨_, rfl, HT3.out⟩
end Go.Proofs.Ytiofhmlmimbngaa
