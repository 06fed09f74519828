/- The intake: Step. -/
import Derived.Test.YtiofhmlmimbngaaIntakeC
namespace Go.Proofs.Ytiofhmlmimbngaa
open Go.RowKit

def Sp.zero : Sp.T := ⟨0, 0, 0, 0, ⟨#[]⟩, ⟨#[]⟩, 0, 0, 0, false, []⟩
theorem zero_is (F : Nat → Prop) (w : World) : spanK.R F w zeroSpan.toList Sp.zero := ⟨.slice none 0 0, rfl, Rw.nil _ _ _⟩

def Iq.step (q : Iq) (x : Int) : Nat × Sp.T × Nat × Iq :=
  if x < 0 ∨ (q.m : Int) ≤ x then (0, Sp.zero, 2, q)
  else match q.held.getD x.toNat [] with
    | s :: r => (2, s, 0, { q with held := q.held.set x.toNat r })
    | [] => match q.queue with
      | l :: ls => (1, Sp.zero, 0, { q with first := q.first + 1, queue := ls, held := q.held.set x.toNat l })
      | [] => (0, Sp.zero, 0, q)

def StepPost (X : Nat → Prop) (lo b rb hb : Nat) (r : Nat × Sp.T × Nat × Iq) (w : World) (e : Ending) (w' : World) : Prop :=
  ∃ cs, e = .returned (.tuple #[.int .i64 (r.1 : Int), .agg cs.toArray, .int .i64 (r.2.2.1 : Int)]) ∧ spanK.R (ft X lo w'.heap.size b rb hb) w' cs r.2.1 ∧ Intk X lo w'.heap.size w' b rb hb r.2.2.2 ∧ Wrote (fun k => k = b ∨ k = hb) w w'

theorem Intk.row {X : Nat → Prop} {lo hi b rb hb : Nat} {q : Iq} {w : World} (h : Intk X lo hi w b rb hb q) (i : Nat) (hi' : i < q.held.length) :
    ∃ v, w.cell? ⟨hb, i, none⟩ = some v ∧ Rw spanK (ft X lo hi b rb hb) w v q.held[i] := by
  obtain ⟨hc, h1, h2⟩ := h.held
  obtain ⟨v, g1, g2⟩ := h2.get i hi'
  refine ⟨v, h1.cell ?_, g2⟩
  have h3 : ((hc.toList.drop (i * (rowK spanK).sz)).take (rowK spanK).sz)[0]? = some v := by rw [g1]; rfl
  rw [List.getElem?_take, if_pos (by decide), List.getElem?_drop] at h3
  simpa [show (rowK spanK).sz = 1 from rfl] using h3

theorem Blk.drewN {w : World} {b : Nat} {c : Array Value} {T : TypeId} (h : Blk w b c T) (n : Nat) : Blk (w.drewN n) b c T := h

theorem stepPost_still {X : Nat → Prop} {lo hi b rb hb : Nat} {q : Iq} {er : Nat} {w w1 : World} (h : Intk X lo hi w b rb hb q) (hw : Below w.heap.size w w1) :
    StepPost X lo b rb hb (0, Sp.zero, er, q) w (.returned (.tuple #[.int .i64 0, .agg zeroSpan, .int .i64 er])) (putAll w1 w.heap.size zeroSpan.toList 0).drew := by
  have hb1 : Below w.heap.size w (putAll w1 w.heap.size zeroSpan.toList 0).drew := below_drew (below_putAll (Nat.le_refl _) zeroSpan.toList 0 _ hw)
  exact ⟨_, rfl, zero_is _ _, (h.next_ hb1).up (Nat.le_trans h.hi_le hb1.size) (Nat.le_refl _), Wrote.of_below hb1⟩

set_option maxRecDepth 100000 in
set_option maxHeartbeats 1000000 in
theorem step_arg {X : Nat → Prop} (lo hi b rb hb : Nat) (q : Iq) (x : Int) (w : World) (h : Intk X lo hi w b rb hb q) (hx : x < 0 ∨ (q.m : Int) ≤ x) :
    Calls Try.prog 12 #[.pointer (some ⟨b, 0, none⟩), .int .i64 x] w (StepPost X lo b rb hb (0, Sp.zero, 2, q) w) := by
  have HI := Lib.hid h
  clear h
  go_enter Try.func12, Try.ntmps12
  go_wp2_with fail
  refine calls_gen fun W1 hW1 => ?_
  have HW1 : Hid (Below w.heap.size w W1) := by rw [hW1]; exact (Below.refl _ _).alloc (Nat.le_refl _) _
  have HZ1 : Hid (Blk W1 w.heap.size zeroSpan 35) := by rw [hW1]; exact Blk.at_new rfl rfl
  clear hW1
  have HI1 : Hid (Intk X lo hi W1 b rb hb q) := HI.out.next_ HW1.out
  refine Calls.mono (none_false HI1.out) ?_
  rintro e w1 ⟨rfl, rfl⟩
  have kh : w1.cell? ⟨b, 3, none⟩ = some (.slice (some ⟨hb, 0, none⟩) q.m q.m) := HI1.out.blk.cell rfl
  have k0 : w1.cell? ⟨w.heap.size, 0, none⟩ = some (.int .u64 0) := HZ1.out.cell rfl
  have f0 := HZ1.out.free 0
  have k1 : w1.cell? ⟨w.heap.size, 1, none⟩ = some (.int .u64 0) := HZ1.out.cell rfl
  have f1 := HZ1.out.free 1
  have k2 : w1.cell? ⟨w.heap.size, 2, none⟩ = some (.int .u64 0) := HZ1.out.cell rfl
  have f2 := HZ1.out.free 2
  have k3 : w1.cell? ⟨w.heap.size, 3, none⟩ = some (.int .u64 0) := HZ1.out.cell rfl
  have f3 := HZ1.out.free 3
  have k4 : w1.cell? ⟨w.heap.size, 4, none⟩ = some (.string ⟨#[]⟩) := HZ1.out.cell rfl
  have f4 := HZ1.out.free 4
  have k5 : w1.cell? ⟨w.heap.size, 5, none⟩ = some (.string ⟨#[]⟩) := HZ1.out.cell rfl
  have f5 := HZ1.out.free 5
  have k6 : w1.cell? ⟨w.heap.size, 6, none⟩ = some (.int .i64 0) := HZ1.out.cell rfl
  have f6 := HZ1.out.free 6
  have k7 : w1.cell? ⟨w.heap.size, 7, none⟩ = some (.int .i64 0) := HZ1.out.cell rfl
  have f7 := HZ1.out.free 7
  have k8 : w1.cell? ⟨w.heap.size, 8, none⟩ = some (.int .i64 0) := HZ1.out.cell rfl
  have f8 := HZ1.out.free 8
  have k9 : w1.cell? ⟨w.heap.size, 9, none⟩ = some (.bool false) := HZ1.out.cell rfl
  have f9 := HZ1.out.free 9
  have k10 : w1.cell? ⟨w.heap.size, 10, none⟩ = some (.slice none 0 0) := HZ1.out.cell rfl
  have f10 := HZ1.out.free 10
  have fin : StepPost X lo b rb hb (0, Sp.zero, 2, q) w (.returned (.tuple #[.int .i64 0, .agg zeroSpan, .int .i64 2])) (putAll w1 w.heap.size zeroSpan.toList 0).drew := by
    have hb1 : Below w.heap.size w (putAll w1 w.heap.size zeroSpan.toList 0).drew := below_drew (below_putAll (Nat.le_refl _) zeroSpan.toList 0 _ HW1.out)
    exact ⟨_, rfl, zero_is _ _, (HI.out.next_ hb1).up (Nat.le_trans HI.out.hi_le hb1.size) (Nat.le_refl _), Wrote.of_below hb1⟩
  rcases hx with hx | hx
  · have hxx : decide (x < 0) = true := by simpa using hx
    go_wp2_with fail
    go_region_with (fail)
    all_goals
      go_wp2_with fail
      refine bodyPost_ret (results_tmp_cell_tmp (p := 5) (t := 4) (u := 6) rfl _ _ w.heap.size 35 zeroSpan _ rfl ?_ Try.underlying35 rfl (by kernel_rfl)) rfl ?_
      · exact Blk.drew (Blk.putAll zeroSpan.toList 0 _ _ _ HZ1.out rfl (by decide))
      · exact fin
  · have hxx : decide (x < 0) = false := by simp; omega
    have hxy : (q.m : Int) ≤ x := hx
    go_wp2_with fail
    go_region_with (fail)
    all_goals
      go_wp2_with fail
      refine bodyPost_ret (results_tmp_cell_tmp (p := 5) (t := 4) (u := 6) rfl _ _ w.heap.size 35 zeroSpan _ rfl ?_ Try.underlying35 rfl (by kernel_rfl)) rfl ?_
      · exact Blk.drew (Blk.putAll zeroSpan.toList 0 _ _ _ HZ1.out rfl (by decide))
      · exact fin

set_option maxRecDepth 100000 in
set_option maxHeartbeats 1000000 in
theorem step_idle {X : Nat → Prop} (lo hi b rb hb : Nat) (q : Iq) (i : Nat) (w : World) (h : Intk X lo hi w b rb hb q) (hi1 : i < q.held.length) (h0 : q.held[i] = []) (h1 : q.queue = []) :
    Calls Try.prog 12 #[.pointer (some ⟨b, 0, none⟩), .int .i64 (i : Int)] w (StepPost X lo b rb hb (0, Sp.zero, 0, q) w) := by
  have him : i < q.m := by rw [← h.m1]; exact hi1
  have HI := Lib.hid h
  clear h
  go_enter Try.func12, Try.ntmps12
  go_wp2_with fail
  refine calls_gen fun W1 hW1 => ?_
  have HW1 : Hid (Below w.heap.size w W1) := by rw [hW1]; exact (Below.refl _ _).alloc (Nat.le_refl _) _
  have HZ1 : Hid (Blk W1 w.heap.size zeroSpan 35) := by rw [hW1]; exact Blk.at_new rfl rfl
  clear hW1
  have HI1 : Hid (Intk X lo hi W1 b rb hb q) := HI.out.next_ HW1.out
  refine Calls.mono (none_false HI1.out) ?_
  rintro e w1 ⟨rfl, rfl⟩
  have kh : w1.cell? ⟨b, 3, none⟩ = some (.slice (some ⟨hb, 0, none⟩) q.m q.m) := HI1.out.blk.cell rfl
  have kf : w1.cell? ⟨b, 1, none⟩ = some (.int .i64 (q.first : Int)) := HI1.out.blk.cell rfl
  have kn : w1.cell? ⟨b, 2, none⟩ = some (.int .i64 (q.next : Int)) := HI1.out.blk.cell rfl
  obtain ⟨v, kv, hv⟩ := HI1.out.row i hi1
  rw [h0] at hv
  obtain ⟨va, vc, rfl⟩ := hv.isSlice
  simp only [List.length_nil] at kv
  clear hv
  have hxx : decide ((i : Int) < 0) = false := by simp
  have hxy : decide ((q.m : Int) ≤ (i : Int)) = false := by simp; omega
  have hxi : (i : Int) < (q.m : Int) := by omega
  have hfn : ¬ q.first < q.next := by have := HI.out.len; rw [h1] at this; simp at this; omega
  go_wp2_with fail
  go_quiet (fail)
  go_wp2_with fail
  refine wp_gen fun w2 hw2 => ?_
  have HZ2 : Hid (Blk w2 w.heap.size zeroSpan 35) := by rw [hw2]; exact HZ1.out
  have HW2 : Hid (Below w.heap.size w w2) := by rw [hw2]; exact below_dn HW1.out _
  clear hw2
  have k0 : w2.cell? ⟨w.heap.size, 0, none⟩ = some (.int .u64 0) := HZ2.out.cell rfl
  have f0 := HZ2.out.free 0
  have k1 : w2.cell? ⟨w.heap.size, 1, none⟩ = some (.int .u64 0) := HZ2.out.cell rfl
  have f1 := HZ2.out.free 1
  have k2 : w2.cell? ⟨w.heap.size, 2, none⟩ = some (.int .u64 0) := HZ2.out.cell rfl
  have f2 := HZ2.out.free 2
  have k3 : w2.cell? ⟨w.heap.size, 3, none⟩ = some (.int .u64 0) := HZ2.out.cell rfl
  have f3 := HZ2.out.free 3
  have k4 : w2.cell? ⟨w.heap.size, 4, none⟩ = some (.string ⟨#[]⟩) := HZ2.out.cell rfl
  have f4 := HZ2.out.free 4
  have k5 : w2.cell? ⟨w.heap.size, 5, none⟩ = some (.string ⟨#[]⟩) := HZ2.out.cell rfl
  have f5 := HZ2.out.free 5
  have k6 : w2.cell? ⟨w.heap.size, 6, none⟩ = some (.int .i64 0) := HZ2.out.cell rfl
  have f6 := HZ2.out.free 6
  have k7 : w2.cell? ⟨w.heap.size, 7, none⟩ = some (.int .i64 0) := HZ2.out.cell rfl
  have f7 := HZ2.out.free 7
  have k8 : w2.cell? ⟨w.heap.size, 8, none⟩ = some (.int .i64 0) := HZ2.out.cell rfl
  have f8 := HZ2.out.free 8
  have k9 : w2.cell? ⟨w.heap.size, 9, none⟩ = some (.bool false) := HZ2.out.cell rfl
  have f9 := HZ2.out.free 9
  have k10 : w2.cell? ⟨w.heap.size, 10, none⟩ = some (.slice none 0 0) := HZ2.out.cell rfl
  have f10 := HZ2.out.free 10
  go_region_with (fail)
  all_goals
    go_wp2_with fail
    refine bodyPost_ret (results_tmp_cell_tmp (p := 5) (t := 4) (u := 6) rfl _ _ w.heap.size 35 zeroSpan _ rfl ?_ Try.underlying35 rfl (by kernel_rfl)) rfl ?_
    · exact Blk.drew (Blk.putAll zeroSpan.toList 0 _ _ _ HZ2.out rfl (by decide))
    · exact stepPost_still HI.out HW2.out

theorem Intk.take {X : Nat → Prop} {lo hi b rb hb : Nat} {q : Iq} {w wX : World} {ov : Value} {l : List Sp.T} {ls : List (List Sp.T)} (h : Intk X lo hi w b rb hb q) (hq : q.queue = l :: ls) (i : Nat) (hi1 : i < q.held.length)
    (ho : Rw spanK (ft X lo hi b rb hb) w ov l) (hx : wX.heap = (((w.setCell ⟨hb, i, none⟩ ov).setCell ⟨b, 1, none⟩ (.int .i64 ((q.first : Int) + 1)))).heap) :
    Intk X lo hi wX b rb hb { q with first := q.first + 1, queue := ls, held := q.held.set i l } := by
  have hsame : ∀ k, k ≠ b → k ≠ hb → wX.heap[k]? = w.heap[k]? := fun k h1 h2 => by
    rw [hx, heap_setCell_other _ _ _ _ h1, heap_setCell_other _ _ _ _ h2]
  have hsz : wX.heap.size = w.heap.size := by rw [hx]; simp
  have hlen := h.len
  rw [hq] at hlen
  simp only [List.length_cons] at hlen
  refine { hi_le := by rw [hsz]; exact h.hi_le, l1 := h.l1, l2 := h.l2, l3 := h.l3, u1 := h.u1, u2 := h.u2, u3 := h.u3, d1 := h.d1, d2 := h.d2, d3 := h.d3, blk := ?_, ring := ?_, held := ?_, n0 := h.n0, n1 := h.n1, m1 := by simp [h.m1], m2 := h.m2, len := ?_, fit := ?_, big := h.big, sm := ?_, sh := ?_ }
  · have h1 := (h.blk.set_other ⟨hb, i, none⟩ ov (fun e => h.d2 e.symm)).set 1 (.int .i64 ((q.first : Int) + 1))
    exact Blk.same h1 (by rw [hx])
  · obtain ⟨rc, g1, g2, g3⟩ := h.ring
    refine ⟨rc, g1.same (hsame _ (fun e => h.d1 e.symm) h.d3), g2, fun j hj => ?_⟩
    obtain ⟨v, g4, g5⟩ := g3 (j + 1) (by rw [hq]; simp at hj ⊢; omega)
    refine ⟨v, ?_, ?_⟩
    · show rc[(q.first + 1 + j) % q.n]? = some v
      rw [show q.first + 1 + j = q.first + (j + 1) by omega]; exact g4
    · have e : q.queue[j + 1]'(by rw [hq]; simp at hj ⊢; omega) = ls[j]'hj := by simp [hq]
      rw [e] at g5
      exact g5.keep fun k _ hF => hsame k hF.2.2.1 hF.2.2.2.2.1
  · obtain ⟨hc, g1, g2⟩ := h.held
    have h1 := (g1.set i ov).set_other ⟨b, 1, none⟩ (.int .i64 ((q.first : Int) + 1)) (fun e => h.d2 e)
    have hl : hc.size = q.held.length := by have := g2.len; simpa [show (rowK spanK).sz = 1 from rfl] using this
    refine ⟨_, Blk.same h1 (by rw [hx]), ?_⟩
    have k1 := (g2.set (x := l) (ecs := [ov]) ⟨ov, rfl, ho⟩ i hi1).keep (w' := wX) fun k _ hF => hsame k hF.2.2.1 hF.2.2.2.2.1
    have e : (hc.setIfInBounds i ov).toList = hc.toList.take (i * (rowK spanK).sz) ++ ([ov] ++ hc.toList.drop (i * (rowK spanK).sz + (rowK spanK).sz)) := by
      rw [Array.toList_setIfInBounds, show (rowK spanK).sz = 1 from rfl, Nat.mul_one, List.set_eq_take_append_cons_drop, if_pos (by simp; omega)]
      rfl
    rw [e]
    exact k1
  · show q.next = q.first + 1 + ls.length; omega
  · have := h.fit; rw [hq] at this; simp at this; show ls.length ≤ q.n; omega
  · exact fun x hx => h.sm x (by rw [hq]; exact List.mem_cons_of_mem _ hx)
  · intro x hx
    rcases List.mem_or_eq_of_mem_set hx with h1 | rfl
    · exact h.sh x h1
    · exact h.sm _ (by rw [hq]; exact List.mem_cons_self ..)

theorem Intk.pop {X : Nat → Prop} {lo hi b rb hb : Nat} {q : Iq} {w wX : World} {ov : Value} {s : Sp.T} {r : List Sp.T} (h : Intk X lo hi w b rb hb q) (i : Nat) (hi1 : i < q.held.length) (hq : q.held[i] = s :: r)
    (ho : Rw spanK (ft X lo hi b rb hb) w ov r) (hx : wX.heap = (w.setCell ⟨hb, i, none⟩ ov).heap) :
    Intk X lo hi wX b rb hb { q with held := q.held.set i r } := by
  have hsame : ∀ k, k ≠ hb → wX.heap[k]? = w.heap[k]? := fun k h2 => by
    rw [hx, heap_setCell_other _ _ _ _ h2]
  have hsz : wX.heap.size = w.heap.size := by rw [hx]; simp
  refine { hi_le := by rw [hsz]; exact h.hi_le, l1 := h.l1, l2 := h.l2, l3 := h.l3, u1 := h.u1, u2 := h.u2, u3 := h.u3, d1 := h.d1, d2 := h.d2, d3 := h.d3, blk := ?_, ring := ?_, held := ?_, n0 := h.n0, n1 := h.n1, m1 := by simp [h.m1], m2 := h.m2, len := h.len, fit := h.fit, big := h.big, sm := h.sm, sh := ?_ }
  · exact Blk.same h.blk (hsame _ h.d2)
  · obtain ⟨rc, g1, g2, g3⟩ := h.ring
    refine ⟨rc, g1.same (hsame _ h.d3), g2, fun j hj => ?_⟩
    obtain ⟨v, g4, g5⟩ := g3 j hj
    exact ⟨v, g4, g5.keep fun k _ hF => hsame k hF.2.2.2.2.1⟩
  · obtain ⟨hc, g1, g2⟩ := h.held
    have h1 := g1.set i ov
    have hl : hc.size = q.held.length := by have := g2.len; simpa [show (rowK spanK).sz = 1 from rfl] using this
    refine ⟨_, Blk.same h1 (by rw [hx]), ?_⟩
    have k1 := (g2.set (x := r) (ecs := [ov]) ⟨ov, rfl, ho⟩ i hi1).keep (w' := wX) fun k _ hF => hsame k hF.2.2.2.2.1
    have e : (hc.setIfInBounds i ov).toList = hc.toList.take (i * (rowK spanK).sz) ++ ([ov] ++ hc.toList.drop (i * (rowK spanK).sz + (rowK spanK).sz)) := by
      rw [Array.toList_setIfInBounds, show (rowK spanK).sz = 1 from rfl, Nat.mul_one, List.set_eq_take_append_cons_drop, if_pos (by simp; omega)]
      rfl
    rw [e]
    exact k1
  · intro x hx
    rcases List.mem_or_eq_of_mem_set hx with h1 | rfl
    · exact h.sh x h1
    · have := h.sh q.held[i] (List.getElem_mem hi1)
      rw [hq] at this
      simp at this
      omega
end Go.Proofs.Ytiofhmlmimbngaa
