/- Chapter 19's document: Step. -/
import Derived.Test.YtiofhmlmimbngaaRIntake
namespace Go.Proofs.Ytiofhmlmimbngaa
open Go.RowKit

def RStepPost (lo b hb : Nat) (qb : Option Nat) (r : Nat × Sp.T × Nat × Iq) (w : World) (e : Ending) (w' : World) : Prop :=
  ∃ cs, e = .returned (.tuple #[.int .i64 (r.1 : Int), .agg cs.toArray, .int .i64 (r.2.2.1 : Int)]) ∧ spanK.R (fr lo w'.heap.size b hb qb) w' cs r.2.1 ∧ RIntk lo w'.heap.size w' b hb qb r.2.2.2 ∧ Wrote (fun k => k = b ∨ k = hb) w w'

theorem rstepPost_still {lo hi b hb : Nat} {qb : Option Nat} {q : Iq} {what er : Nat} {w w1 : World} (h : RIntk lo hi w b hb qb q) (hw : Below w.heap.size w w1) :
    RStepPost lo b hb qb (what, Sp.zero, er, q) w (.returned (.tuple #[.int .i64 what, .agg zeroSpan, .int .i64 er])) w1 :=
  ⟨_, rfl, zero_is _ _, (h.next_ hw).up (Nat.le_trans h.hi_le hw.size) (Nat.le_refl _), Wrote.of_below hw⟩

theorem zero_one : ∀ u ∈ zeroSpan.toList, u.oneCell' = true := by
  intro u hu
  simp only [zeroSpan, emptyStr, List.mem_cons, List.not_mem_nil, or_false] at hu
  rcases hu with rfl | rfl | rfl | rfl | rfl | rfl | rfl | rfl | rfl | rfl | rfl <;> rfl

set_option maxRecDepth 100000 in
set_option maxHeartbeats 1000000 in
theorem rstep_arg (lo hi b hb : Nat) (qb : Option Nat) (q : Iq) (x : Int) (w : World) (h : RIntk lo hi w b hb qb q) (hx : x < 0 ∨ (q.m : Int) ≤ x) :
    Calls Try.prog 25 #[.pointer (some ⟨b, 0, none⟩), .int .i64 x] w (RStepPost lo b hb qb (0, Sp.zero, 2, q) w) := by
  have HI := Lib.hid h
  clear h
  go_enter Try.func25, Try.ntmps25
  go_wp2_with fail
  refine calls_gen fun W1 hW1 => ?_
  have HW1 : Hid (Below w.heap.size w W1) := by rw [hW1]; exact (Below.refl _ _).alloc (Nat.le_refl _) _
  have HZ1 : Hid (Blk W1 w.heap.size zeroSpan 35) := by rw [hW1]; exact Blk.at_new rfl rfl
  clear hW1
  have HI1 : Hid (RIntk lo hi W1 b hb qb q) := HI.out.next_ HW1.out
  refine Calls.mono (rnone_false HI1.out) ?_
  rintro e w1 ⟨rfl, rfl⟩
  obtain ⟨qv, hbk, hqv⟩ := HI1.out.blk
  obtain ⟨qa, qc0, rfl⟩ := hqv.isSlice
  have kh : w1.cell? ⟨b, 4, none⟩ = some (.slice (some ⟨hb, 0, none⟩) q.m q.m) := hbk.cell rfl
  have kq : w1.cell? ⟨b, 3, none⟩ = some (.slice qa q.queue.length qc0) := hbk.cell rfl
  clear hbk hqv
  rcases hx with hx | hx
  · have hxx : decide (x < 0) = true := by simpa using hx
    go_wp2_with (with_reducible refine pause_store ?_)
    refine Pause.go (wpList_store_agg rfl _ _ _ rfl w.heap.size 0 rfl zeroSpan rfl _ _ HZ1.out (by kernel_rfl) (by exact Nat.le_refl _) zero_one ?_)
    rw [show over zeroSpan 0 zeroSpan.toList = zeroSpan from over_all zeroSpan zeroSpan rfl]
    refine list_gen fun w2 hw2 => ?_
    have HZ2 : Hid (Blk w2 w.heap.size zeroSpan 35) := by rw [hw2]; exact HZ1.out.row _
    have HW2 : Hid (Below w.heap.size w w2) := by rw [hw2]; exact below_setRow HW1.out (Nat.le_refl _) _
    clear hw2
    go_wp2_with fail
    refine bodyPost_ret (results_tmp_cell_tmp (p := 5) (t := 4) (u := 6) rfl _ _ w.heap.size 35 zeroSpan _ rfl HZ2.out Try.underlying35 rfl (by kernel_rfl)) rfl ?_
    exact rstepPost_still (what := 0) (er := 2) HI.out HW2.out
  · have hxx : decide (x < 0) = false := by simp; omega
    have hxy : (q.m : Int) ≤ x := hx
    go_wp2_with (with_reducible refine pause_store ?_)
    refine Pause.go (wpList_store_agg rfl _ _ _ rfl w.heap.size 0 rfl zeroSpan rfl _ _ HZ1.out (by kernel_rfl) (by exact Nat.le_refl _) zero_one ?_)
    rw [show over zeroSpan 0 zeroSpan.toList = zeroSpan from over_all zeroSpan zeroSpan rfl]
    refine list_gen fun w2 hw2 => ?_
    have HZ2 : Hid (Blk w2 w.heap.size zeroSpan 35) := by rw [hw2]; exact HZ1.out.row _
    have HW2 : Hid (Below w.heap.size w w2) := by rw [hw2]; exact below_setRow HW1.out (Nat.le_refl _) _
    clear hw2
    go_wp2_with fail
    refine bodyPost_ret (results_tmp_cell_tmp (p := 5) (t := 4) (u := 6) rfl _ _ w.heap.size 35 zeroSpan _ rfl HZ2.out Try.underlying35 rfl (by kernel_rfl)) rfl ?_
    exact rstepPost_still (what := 0) (er := 2) HI.out HW2.out

set_option maxRecDepth 100000 in
set_option maxHeartbeats 1000000 in
theorem rstep_idle (lo hi b hb : Nat) (qb : Option Nat) (q : Iq) (i : Nat) (w : World) (h : RIntk lo hi w b hb qb q) (hi1 : i < q.held.length) (h0 : q.held[i] = []) (h1 : q.queue = []) :
    Calls Try.prog 25 #[.pointer (some ⟨b, 0, none⟩), .int .i64 (i : Int)] w (RStepPost lo b hb qb (0, Sp.zero, 0, q) w) := by
  have him : i < q.m := by rw [← h.m1]; exact hi1
  have HI := Lib.hid h
  clear h
  go_enter Try.func25, Try.ntmps25
  go_wp2_with fail
  refine calls_gen fun W1 hW1 => ?_
  have HW1 : Hid (Below w.heap.size w W1) := by rw [hW1]; exact (Below.refl _ _).alloc (Nat.le_refl _) _
  have HZ1 : Hid (Blk W1 w.heap.size zeroSpan 35) := by rw [hW1]; exact Blk.at_new rfl rfl
  clear hW1
  have HI1 : Hid (RIntk lo hi W1 b hb qb q) := HI.out.next_ HW1.out
  refine Calls.mono (rnone_false HI1.out) ?_
  rintro e w1 ⟨rfl, rfl⟩
  obtain ⟨qv, hbk, hqv⟩ := HI1.out.blk
  obtain ⟨qa, qc0, rfl⟩ := hqv.isSlice
  have kh : w1.cell? ⟨b, 4, none⟩ = some (.slice (some ⟨hb, 0, none⟩) q.m q.m) := hbk.cell rfl
  have kq : w1.cell? ⟨b, 3, none⟩ = some (.slice qa q.queue.length qc0) := hbk.cell rfl
  obtain ⟨v, kv, hv⟩ := HI1.out.row i hi1
  rw [h0] at hv
  obtain ⟨va, vc, rfl⟩ := hv.isSlice
  simp only [List.length_nil] at kv
  rw [h1] at kq
  simp only [List.length_nil] at kq
  clear hv hbk hqv
  have hxx : decide ((i : Int) < 0) = false := by simp
  have hxy : decide ((q.m : Int) ≤ (i : Int)) = false := by simp; omega
  have hxi : (i : Int) < (q.m : Int) := by omega
  go_wp2_with (with_reducible refine pause_store ?_)
  refine Pause.go (wpList_store_agg rfl _ _ _ rfl w.heap.size 0 rfl zeroSpan rfl _ _ HZ1.out (by kernel_rfl) (by exact Nat.le_refl _) zero_one ?_)
  rw [show over zeroSpan 0 zeroSpan.toList = zeroSpan from over_all zeroSpan zeroSpan rfl]
  refine list_gen fun w2 hw2 => ?_
  have HZ2 : Hid (Blk w2 w.heap.size zeroSpan 35) := by rw [hw2]; exact HZ1.out.row _
  have HW2 : Hid (Below w.heap.size w w2) := by rw [hw2]; exact below_setRow HW1.out (Nat.le_refl _) _
  clear hw2
  go_wp2_with fail
  refine bodyPost_ret (results_tmp_cell_tmp (p := 5) (t := 4) (u := 6) rfl _ _ w.heap.size 35 zeroSpan _ rfl HZ2.out Try.underlying35 rfl (by kernel_rfl)) rfl ?_
  exact rstepPost_still (what := 0) (er := 0) HI.out HW2.out

theorem run_tail1 (w : World) (g off n cap : Nat) (h : 1 ≤ n) (_hc : n ≤ cap) (_hm : cap ≤ maxLen) :
    (Instr.slice 60 (.slice (some ⟨g, off, none⟩) n cap) (some (.int .i64 1)) none none).run Try.prog w = .ok (.slice (some ⟨g, if cap = 1 then off else off + 1, none⟩) (n - 1) (cap - 1)) w := by
  rw [run_slice_l (P := Try.prog) w 60 (some ⟨g, off, none⟩) n cap (by kernel_rfl) .i64 1 (by omega) (by omega), run_sizeOf (sz := 1) (by kernel_rfl)]
  show Result.ok (Value.slice (cutAddr 1 cap 1 (some ⟨g, off, none⟩)) (n - 1) (cap - 1)) w = _
  unfold cutAddr
  by_cases hc1 : cap = 1
  · rw [if_pos hc1, if_pos hc1]
  · rw [if_neg hc1, if_neg hc1]
    show Result.ok (Value.slice (some ((⟨g, off, none⟩ : Addr).add (1 * 1))) (n - 1) (cap - 1)) w = _
    rw [add_plain']

theorem RIntk.take {lo hi b hb : Nat} {qb : Option Nat} {q : Iq} {w wX : World} {ov qv' : Value} {l : List Sp.T} {ls : List (List Sp.T)} (h : RIntk lo hi w b hb qb q) (hq : q.queue = l :: ls) (i : Nat) (hi1 : i < q.held.length)
    (ho : Rw spanK (fr lo hi b hb qb) w ov l) (hqv : QV lo hi w b hb qb qv' ls) (hx : wX.heap = ((w.setCell ⟨hb, i, none⟩ ov).setCell ⟨b, 3, none⟩ qv').heap) :
    RIntk lo hi wX b hb qb { q with first := q.first + 1, queue := ls, held := q.held.set i l } := by
  have hsame : ∀ k, k ≠ b → k ≠ hb → wX.heap[k]? = w.heap[k]? := fun k h1 h2 => by
    rw [hx, heap_setCell_other _ _ _ _ h1, heap_setCell_other _ _ _ _ h2]
  have hsz : wX.heap.size = w.heap.size := by rw [hx]; simp
  refine { hi_le := by rw [hsz]; exact h.hi_le, l1 := h.l1, l3 := h.l3, u1 := h.u1, u3 := h.u3, d2 := h.d2, blk := ?_, held := ?_, qlo := h.qlo, n0 := h.n0, n1 := h.n1, m1 := by simp [h.m1], m2 := h.m2, fit := ?_, sm := ?_, sh := ?_ }
  · obtain ⟨qv, g1, _⟩ := h.blk
    have h1 := (g1.set_other ⟨hb, i, none⟩ ov (fun e => h.d2 e.symm)).set 3 qv'
    exact ⟨qv', Blk.same h1 (by rw [hx]), hqv.keep (fun k _ h1 h2 => hsame k h1 h2) (Nat.le_refl _)⟩
  · obtain ⟨hc, g1, g2⟩ := h.held
    have h1 := (g1.set i ov).set_other ⟨b, 3, none⟩ qv' (fun e => h.d2 e)
    have hl : hc.size = q.held.length := by have := g2.len; simpa [show (rowK spanK).sz = 1 from rfl] using this
    refine ⟨_, Blk.same h1 (by rw [hx]), ?_⟩
    have k1 := (g2.set (x := l) (ecs := [ov]) ⟨ov, rfl, ho⟩ i hi1).keep (w' := wX) fun k _ hF => hsame k hF.2.2.1 hF.2.2.2.1
    have e : (hc.setIfInBounds i ov).toList = hc.toList.take (i * (rowK spanK).sz) ++ ([ov] ++ hc.toList.drop (i * (rowK spanK).sz + (rowK spanK).sz)) := by
      rw [Array.toList_setIfInBounds, show (rowK spanK).sz = 1 from rfl, Nat.mul_one, List.set_eq_take_append_cons_drop, if_pos (by simp; omega)]
      rfl
    rw [e]
    exact k1
  · have := h.fit; rw [hq] at this; simp at this; show ls.length ≤ q.n; omega
  · exact fun x hx => h.sm x (by rw [hq]; exact List.mem_cons_of_mem _ hx)
  · intro x hx
    rcases List.mem_or_eq_of_mem_set hx with h1 | rfl
    · exact h.sh x h1
    · exact h.sm _ (by rw [hq]; exact List.mem_cons_self ..)

theorem RIntk.pop {lo hi b hb : Nat} {qb : Option Nat} {q : Iq} {w wX : World} {ov : Value} {s : Sp.T} {r : List Sp.T} (h : RIntk lo hi w b hb qb q) (i : Nat) (hi1 : i < q.held.length) (hq : q.held[i] = s :: r)
    (ho : Rw spanK (fr lo hi b hb qb) w ov r) (hx : wX.heap = (w.setCell ⟨hb, i, none⟩ ov).heap) :
    RIntk lo hi wX b hb qb { q with held := q.held.set i r } := by
  have hsame : ∀ k, k ≠ hb → wX.heap[k]? = w.heap[k]? := fun k h2 => by
    rw [hx, heap_setCell_other _ _ _ _ h2]
  have hsz : wX.heap.size = w.heap.size := by rw [hx]; simp
  refine { hi_le := by rw [hsz]; exact h.hi_le, l1 := h.l1, l3 := h.l3, u1 := h.u1, u3 := h.u3, d2 := h.d2, blk := ?_, held := ?_, qlo := h.qlo, n0 := h.n0, n1 := h.n1, m1 := by simp [h.m1], m2 := h.m2, fit := h.fit, sm := h.sm, sh := ?_ }
  · obtain ⟨qv, g1, g2⟩ := h.blk
    exact ⟨qv, Blk.same g1 (hsame _ h.d2), g2.keep (fun k _ _ h2 => hsame k h2) (Nat.le_refl _)⟩
  · obtain ⟨hc, g1, g2⟩ := h.held
    have h1 := g1.set i ov
    have hl : hc.size = q.held.length := by have := g2.len; simpa [show (rowK spanK).sz = 1 from rfl] using this
    refine ⟨_, Blk.same h1 (by rw [hx]), ?_⟩
    have k1 := (g2.set (x := r) (ecs := [ov]) ⟨ov, rfl, ho⟩ i hi1).keep (w' := wX) fun k _ hF => hsame k hF.2.2.2.1
    have e : (hc.setIfInBounds i ov).toList = hc.toList.take (i * (rowK spanK).sz) ++ ([ov] ++ hc.toList.drop (i * (rowK spanK).sz + (rowK spanK).sz)) := by
      rw [Array.toList_setIfInBounds, show (rowK spanK).sz = 1 from rfl, Nat.mul_one, List.set_eq_take_append_cons_drop, if_pos (by simp; omega)]
      rfl
    rw [e]
    exact k1
  · intro x hx
    rcases List.mem_or_eq_of_mem_set hx with h1 | rfl
    · exact h.sh x h1
    · have := h.sh q.held[i] (List.getElem_mem hi1)
      rw [hq] at this
      simp at this
      omega

/-- The queue's first batch, and what is left behind it. -/
theorem QV.front {lo hi b hb : Nat} {w : World} {qb : Option Nat} {qv : Value} {l : List Sp.T} {ls : List (List Sp.T)} (h : QV lo hi w b hb qb qv (l :: ls)) :
    ∃ g off cap ov, qv = .slice (some ⟨g, off, none⟩) (ls.length + 1) cap ∧ ls.length + 1 ≤ cap ∧ cap ≤ maxLen ∧ g ≠ b ∧ g ≠ hb ∧ w.cell? ⟨g, off, none⟩ = some ov ∧ Rw spanK (fr lo hi b hb qb) w ov l ∧
      QV lo hi w b hb qb (.slice (some ⟨g, if cap = 1 then off else off + 1, none⟩) ls.length (cap - 1)) ls := by
  rcases h with ⟨_, _, h⟩ | ⟨g, off, cap, qc, h1, h2, h3, h4, h5, h6, h7, h8, h9, h10, h11⟩
  · cases h
  · simp only [List.length_cons] at h2 h8
    obtain ⟨ov, e1, e2⟩ := h11 0 (by simp)
    rw [Nat.add_zero] at e1
    refine ⟨g, off, cap, ov, h2, h8, h9, h5, h6, h7.cell e1, e2, .inr ⟨g, if cap = 1 then off else off + 1, cap - 1, qc, h1, rfl, h3, h4, h5, h6, h7, by omega, by omega, by split <;> omega, fun i hi => ?_⟩⟩
    obtain ⟨v, g1, g2⟩ := h11 (i + 1) (by simp; omega)
    refine ⟨v, ?_, g2⟩
    rw [if_neg (by omega), show off + 1 + i = off + (i + 1) by omega]
    exact g1
end Go.Proofs.Ytiofhmlmimbngaa
