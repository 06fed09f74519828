/- The intake: Step takes a batch; Step hands a span on. -/
import Derived.Test.YtiofhmlmimbngaaIntakeD
namespace Go.Proofs.Ytiofhmlmimbngaa
open Go.RowKit

theorem Wrote.putAll {S : Nat → Prop} {w : World} {z : Nat} (hz : w.heap.size ≤ z) : ∀ (vs : List Value) (i : Nat) (w' : World), Wrote S w w' → Wrote S w (Go.Proofs.Ytiofhmlmimbngaa.putAll w' z vs i)
  | [], _, _, h => h
  | v :: vs, i, w', h => Wrote.putAll hz vs (i + 1) _ ⟨h.os, h.tape, h.output, by simpa using h.size, fun k hk hn => (heap_setCell_other _ _ _ _ (by show k ≠ z; omega)).trans (h.block k hk hn)⟩

theorem stepPost_end {X : Nat → Prop} {lo hi b rb hb : Nat} {q : Iq} {what er z : Nat} {s : Sp.T} {w w3 : World} {cs cs' : List Value} (h : Intk X lo hi w3 b rb hb q) (hw : Wrote (fun k => k = b ∨ k = hb) w w3) (hz : w.heap.size ≤ z) (hhi : hi ≤ w.heap.size)
    (hs : spanK.R (ft X lo hi b rb hb) w3 cs s) :
    StepPost X lo b rb hb (what, s, er, q) w (.returned (.tuple #[.int .i64 what, .agg cs.toArray, .int .i64 er])) (putAll w3 z cs' 0).drew := by
  have hb1 : Below hi w3 (putAll w3 z cs' 0).drew := below_drew (below_putAll (Nat.le_trans hhi hz) cs' 0 _ (Below.refl _ _))
  have hw1 := (Wrote.putAll hz cs' 0 _ hw).drew
  have hi1 : hi ≤ (putAll w3 z cs' 0).drew.heap.size := Nat.le_trans h.hi_le hb1.size
  exact ⟨_, rfl, spanK.mono (spanK.keep hs fun k _ hF => hb1.block k hF.2.1) fun k _ hF => ⟨hF.1, Nat.lt_of_lt_of_le hF.2.1 hi1, hF.2.2⟩, (h.below hb1).up hi1 (Nat.le_refl _), hw1⟩

set_option maxRecDepth 100000 in
set_option maxHeartbeats 2000000 in
theorem step_take {X : Nat → Prop} (lo hi b rb hb : Nat) (q : Iq) (i : Nat) (l : List Sp.T) (ls : List (List Sp.T)) (w : World) (h : Intk X lo hi w b rb hb q) (hi1 : i < q.held.length) (h0 : q.held[i] = []) (h1 : q.queue = l :: ls) :
    Calls Try.prog 12 #[.pointer (some ⟨b, 0, none⟩), .int .i64 (i : Int)] w (StepPost X lo b rb hb (1, Sp.zero, 0, { q with first := q.first + 1, queue := ls, held := q.held.set i l }) w) := by
  have him : i < q.m := by rw [← h.m1]; exact hi1
  have HI := Lib.hid h
  clear h
  go_enter Try.func12, Try.ntmps12
  go_wp2_with fail
  refine calls_gen fun W1 hW1 => ?_
  have HW1 : Hid (Below w.heap.size w W1) := by rw [hW1]; exact (Below.refl _ _).alloc (Nat.le_refl _) _
  have HZ1 : Hid (Blk W1 w.heap.size zeroSpan 35) := by rw [hW1]; exact Blk.at_new rfl rfl
  clear hW1
  have HI1 : Hid (Intk X lo hi W1 b rb hb q) := HI.out.next_ HW1.out
  refine Calls.mono (none_false HI1.out) ?_
  rintro e w1 ⟨rfl, rfl⟩
  have kh : w1.cell? ⟨b, 3, none⟩ = some (.slice (some ⟨hb, 0, none⟩) q.m q.m) := HI1.out.blk.cell rfl
  have kf : w1.cell? ⟨b, 1, none⟩ = some (.int .i64 (q.first : Int)) := HI1.out.blk.cell rfl
  have kn : w1.cell? ⟨b, 2, none⟩ = some (.int .i64 (q.next : Int)) := HI1.out.blk.cell rfl
  obtain ⟨v, kv, hv⟩ := HI1.out.row i hi1
  rw [h0] at hv
  obtain ⟨va, vc, rfl⟩ := hv.isSlice
  simp only [List.length_nil] at kv
  clear hv
  have hxx : decide ((i : Int) < 0) = false := by simp
  have hxy : decide ((q.m : Int) ≤ (i : Int)) = false := by simp; omega
  have hxi : (i : Int) < (q.m : Int) := by omega
  have hfn : q.first < q.next := by have := HI.out.len; rw [h1] at this; simp at this; omega
  go_wp2_with fail
  go_quiet (fail)
  go_wp2_with fail
  refine wp_gen fun w2 hw2 => ?_
  have HZ2 : Hid (Blk w2 w.heap.size zeroSpan 35) := by rw [hw2]; exact HZ1.out
  have HW2 : Hid (Below w.heap.size w w2) := by rw [hw2]; exact below_dn HW1.out _
  have HI2 : Hid (Intk X lo hi w2 b rb hb q) := HI.out.next_ HW2.out
  rw [show w1.cell? ⟨hb, i, none⟩ = w2.cell? ⟨hb, i, none⟩ by rw [hw2]; rfl] at kv
  clear hw2 kh kf kn
  have kg : w2.cell? ⟨b, 0, none⟩ = some (.slice (some ⟨rb, 0, none⟩) q.n q.n) := HI2.out.blk.cell rfl
  have kf : w2.cell? ⟨b, 1, none⟩ = some (.int .i64 (q.first : Int)) := HI2.out.blk.cell rfl
  have ff : w2.frozen? ⟨b, 1, none⟩ = false := HI2.out.blk.free 1
  have fv : w2.frozen? ⟨hb, i, none⟩ = false := by obtain ⟨hc, g1, _⟩ := HI2.out.held; exact g1.free i
  have hq0 : ¬ q.n = 0 := by have := HI.out.n0; omega
  have hmod : (q.first : Int).tmod (q.n : Int) = ((q.first % q.n : Nat) : Int) := by rw [Int.tmod_eq_emod_of_nonneg (by omega)]; omega
  have hlt := Nat.mod_lt q.first HI.out.n0
  have ht0 : 0 ≤ (q.first : Int).tmod (q.n : Int) := by omega
  have ht1 : (q.first : Int).tmod (q.n : Int) < (q.n : Int) := by omega
  obtain ⟨ov, kr, hov⟩ : ∃ ov, w2.cell? ⟨rb, ((q.first : Int).tmod (q.n : Int)).toNat, none⟩ = some ov ∧ Rw spanK (ft X lo hi b rb hb) w2 ov l := by
    obtain ⟨rc, g1, g2, g3⟩ := HI2.out.ring
    obtain ⟨ov, g4, g5⟩ := g3 0 (by rw [h1]; simp)
    refine ⟨ov, g1.cell ?_, ?_⟩
    · rw [hmod, Int.toNat_natCast]; exact g4
    · have e : q.queue[0]'(by rw [h1]; simp) = l := by simp [h1]
      rw [e] at g5; exact g5
  obtain ⟨oa, oc, rfl⟩ := hov.isSlice
  have HOV := Lib.hid hov
  have hbig : IntKind.i64.wrap ((q.first : Int) + 1) = (q.first : Int) + 1 := by have := HI.out.big; exact wrap_small (by omega) (by omega)
  have hbig2 : RowKit.wrap64 ((q.first : Int) + 1) = (q.first : Int) + 1 := by have := HI.out.big; unfold RowKit.wrap64; omega
  have d2 : b ≠ hb := HI.out.d2
  have d2' : hb ≠ b := fun e => d2 e.symm
  clear hmod hlt hov hfn
  go_region
  all_goals
    go_wp2_with fail
    refine wp_gen fun w3 hw3 => ?_
    have HI3 : Hid (Intk X lo hi w3 b rb hb { q with first := q.first + 1, queue := ls, held := q.held.set i l }) := HI2.out.take h1 i hi1 HOV.out (by rw [hw3]; rfl)
    have HZ3 : Hid (Blk w3 w.heap.size zeroSpan 35) := by
      have g1 := HI.out.hi_le
      have g2 := HI.out.u1
      have g3 := HI.out.u3
      rw [hw3]
      exact (HZ2.out.set_other _ _ (by show hb ≠ w.heap.size; omega)).set_other _ _ (by show b ≠ w.heap.size; omega)
    have HR3 : Hid (Wrote (fun k => k = b ∨ k = hb) w w3) := by rw [hw3]; exact (((Wrote.of_below HW2.out).setCell _ _ (.inr rfl)).setCell _ _ (.inl rfl)).drew
    clear hw3 kg kf ff fv kr kv
    have k0 : w3.cell? ⟨w.heap.size, 0, none⟩ = some (.int .u64 0) := HZ3.out.cell rfl
    have f0 := HZ3.out.free 0
    have k1 : w3.cell? ⟨w.heap.size, 1, none⟩ = some (.int .u64 0) := HZ3.out.cell rfl
    have f1 := HZ3.out.free 1
    have k2 : w3.cell? ⟨w.heap.size, 2, none⟩ = some (.int .u64 0) := HZ3.out.cell rfl
    have f2 := HZ3.out.free 2
    have k3 : w3.cell? ⟨w.heap.size, 3, none⟩ = some (.int .u64 0) := HZ3.out.cell rfl
    have f3 := HZ3.out.free 3
    have k4 : w3.cell? ⟨w.heap.size, 4, none⟩ = some (.string ⟨#[]⟩) := HZ3.out.cell rfl
    have f4 := HZ3.out.free 4
    have k5 : w3.cell? ⟨w.heap.size, 5, none⟩ = some (.string ⟨#[]⟩) := HZ3.out.cell rfl
    have f5 := HZ3.out.free 5
    have k6 : w3.cell? ⟨w.heap.size, 6, none⟩ = some (.int .i64 0) := HZ3.out.cell rfl
    have f6 := HZ3.out.free 6
    have k7 : w3.cell? ⟨w.heap.size, 7, none⟩ = some (.int .i64 0) := HZ3.out.cell rfl
    have f7 := HZ3.out.free 7
    have k8 : w3.cell? ⟨w.heap.size, 8, none⟩ = some (.int .i64 0) := HZ3.out.cell rfl
    have f8 := HZ3.out.free 8
    have k9 : w3.cell? ⟨w.heap.size, 9, none⟩ = some (.bool false) := HZ3.out.cell rfl
    have f9 := HZ3.out.free 9
    have k10 : w3.cell? ⟨w.heap.size, 10, none⟩ = some (.slice none 0 0) := HZ3.out.cell rfl
    have f10 := HZ3.out.free 10
    go_region_with (fail)
    all_goals
      go_wp2_with fail
      refine bodyPost_ret (results_tmp_cell_tmp (p := 5) (t := 4) (u := 6) rfl _ _ w.heap.size 35 zeroSpan _ rfl ?_ Try.underlying35 rfl (by kernel_rfl)) rfl ?_
      · exact Blk.drew (Blk.putAll zeroSpan.toList 0 _ _ _ HZ3.out rfl (by decide))
      · exact stepPost_end (cs := zeroSpan.toList) (cs' := zeroSpan.toList) HI3.out HR3.out (Nat.le_refl _) HI.out.hi_le (zero_is _ _)
end Go.Proofs.Ytiofhmlmimbngaa
