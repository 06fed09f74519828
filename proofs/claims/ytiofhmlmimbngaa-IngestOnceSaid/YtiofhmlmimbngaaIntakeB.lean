/- The intake: what it is in memory; New. -/
import Derived.Test.YtiofhmlmimbngaaIntake
namespace Go.Proofs.Ytiofhmlmimbngaa
open Go.RowKit

structure Iq where
  n : Nat
  m : Nat
  first : Nat
  next : Nat
  queue : List (List Sp.T)
  held : List (List Sp.T)

/-- The blocks of an intake's batches. -/
def ft (X : Nat → Prop) (lo hi b rb hb : Nat) (k : Nat) : Prop := lo ≤ k ∧ k < hi ∧ k ≠ b ∧ k ≠ rb ∧ k ≠ hb ∧ ¬ X k

/-- An intake in memory: its struct in block b, its ring in rb, its workers' rows in hb; all its blocks lie from lo to hi. -/
structure Intk (X : Nat → Prop) (lo hi : Nat) (w : World) (b rb hb : Nat) (q : Iq) : Prop where
  hi_le : hi ≤ w.heap.size
  l1 : lo ≤ b
  l2 : lo ≤ rb
  l3 : lo ≤ hb
  u1 : b < hi
  u2 : rb < hi
  u3 : hb < hi
  d1 : b ≠ rb
  d2 : b ≠ hb
  d3 : rb ≠ hb
  blk : Blk w b #[.slice (some ⟨rb, 0, none⟩) q.n q.n, .int .i64 (q.first : Int), .int .i64 (q.next : Int), .slice (some ⟨hb, 0, none⟩) q.m q.m] 62
  ring : ∃ rc, Blk w rb rc 37 ∧ rc.size = q.n ∧ ∀ i (h : i < q.queue.length), ∃ v, rc[(q.first + i) % q.n]? = some v ∧ Rw spanK (ft X lo hi b rb hb) w v q.queue[i]
  held : ∃ hc, Blk w hb hc 37 ∧ Els (rowK spanK) (ft X lo hi b rb hb) w hc.toList q.held
  n0 : 0 < q.n
  n1 : q.n ≤ 64
  m1 : q.held.length = q.m
  m2 : q.m ≤ 8
  len : q.next = q.first + q.queue.length
  fit : q.queue.length ≤ q.n
  big : q.next ≤ 1000000
  sm : ∀ l ∈ q.queue, l.length ≤ 1000000
  sh : ∀ l ∈ q.held, l.length ≤ 1000000

section
variable {X : Nat → Prop} {lo hi b rb hb : Nat} {w w' : World} {q : Iq}
theorem Intk.below (h : Intk X lo hi w b rb hb q) (k : Below hi w w') : Intk X lo hi w' b rb hb q where
  hi_le := Nat.le_trans h.hi_le k.size
  l1 := h.l1
  l2 := h.l2
  l3 := h.l3
  u1 := h.u1
  u2 := h.u2
  u3 := h.u3
  d1 := h.d1
  d2 := h.d2
  d3 := h.d3
  blk := h.blk.below k h.u1
  ring := by
    obtain ⟨rc, h1, h2, h3⟩ := h.ring
    refine ⟨rc, h1.below k h.u2, h2, fun i hi => ?_⟩
    obtain ⟨v, g1, g2⟩ := h3 i hi
    exact ⟨v, g1, g2.keep fun j _ hF => k.block j hF.2.1⟩
  held := by
    obtain ⟨hc, h1, h2⟩ := h.held
    exact ⟨hc, h1.below k h.u3, h2.keep fun j _ hF => k.block j hF.2.1⟩
  n0 := h.n0
  n1 := h.n1
  m1 := h.m1
  m2 := h.m2
  len := h.len
  fit := h.fit
  big := h.big
  sm := h.sm
  sh := h.sh
theorem Intk.next_ (h : Intk X lo hi w b rb hb q) (k : Below w.heap.size w w') : Intk X lo hi w' b rb hb q := h.below (k.mono h.hi_le)
theorem Intk.up {hi' : Nat} (h : Intk X lo hi w b rb hb q) (h1 : hi ≤ hi') (h2 : hi' ≤ w.heap.size) : Intk X lo hi' w b rb hb q where
  hi_le := h2
  l1 := h.l1
  l2 := h.l2
  l3 := h.l3
  u1 := Nat.lt_of_lt_of_le h.u1 h1
  u2 := Nat.lt_of_lt_of_le h.u2 h1
  u3 := Nat.lt_of_lt_of_le h.u3 h1
  d1 := h.d1
  d2 := h.d2
  d3 := h.d3
  blk := h.blk
  ring := by
    obtain ⟨rc, g1, g2, g3⟩ := h.ring
    refine ⟨rc, g1, g2, fun i hi => ?_⟩
    obtain ⟨v, g4, g5⟩ := g3 i hi
    exact ⟨v, g4, g5.mono fun j _ hF => ⟨hF.1, Nat.lt_of_lt_of_le hF.2.1 h1, hF.2.2⟩⟩
  held := by
    obtain ⟨hc, g1, g2⟩ := h.held
    exact ⟨hc, g1, g2.mono fun j _ hF => ⟨hF.1, Nat.lt_of_lt_of_le hF.2.1 h1, hF.2.2⟩⟩
  n0 := h.n0
  n1 := h.n1
  m1 := h.m1
  m2 := h.m2
  len := h.len
  fit := h.fit
  big := h.big
  sm := h.sm
  sh := h.sh

theorem none_false (h : Intk X lo hi w b rb hb q) :
    Calls Try.prog 33 #[.pointer (some ⟨b, 0, none⟩)] w fun e w' => e = .returned (.bool false) ∧ w' = w := by
  have hnil := nil_spans
  have k0 : w.cell? ⟨b, 0, none⟩ = some (.slice (some ⟨rb, 0, none⟩) q.n q.n) := h.blk.cell rfl
  clear h
  go_enter Try.func33, Try.ntmps33
  go_wp2_with fail
  go_ret
  exact ⟨rfl, rfl⟩
end

theorem info_spans : (Try.prog.info? 37).map (fun i => (i.zero, i.size, i.bytes)) = some (some (.slice none 0 0), 1, 24) := by kernel_rfl

theorem make_spans (n : Nat) (hn : n ≤ 64) (w : World) : (Instr.makeSlice 60 (.int .i64 (n : Int)) (.int .i64 (n : Int))).run Try.prog w = .ok (.slice (some ⟨w.heap.size, 0, none⟩) n n) (w.alloc (.cells (madeCells #[.slice none 0 0] n) 37)) := by
  obtain ⟨i0, hi, hz0, hz1, hz2⟩ := info_parts info_spans
  have hr := run_make (P := Try.prog) w 60 37 i0 _ Try.underlying60 hi hz0 .i64 .i64 n n (by omega) (Int.le_refl _) (by rw [hz2]; omega) (by omega)
  rw [hz1] at hr
  simpa [Value.cells] using hr

theorem checkSetup_any (n m : Int) (w : World) :
    Calls Try.prog 22 #[.agg #[.int .i64 n, .int .i64 m]] w fun e w' => e = .returned (.int .i64 (if n < 1 ∨ 64 < n ∨ m < 1 ∨ 8 < m then 2 else 0)) ∧ Below w.heap.size w w' := by
  have hb : Below w.heap.size w (w.alloc (.cells #[.int .i64 n, .int .i64 m] 27)) := (Below.refl _ _).alloc (Nat.le_refl _) _
  go_enter Try.func22, Try.ntmps22
  go_wp2_with fail
  all_goals
    go_ret
    first | exact ⟨rfl, hb⟩ | exact ⟨ret_int (by first | rw [if_pos (by omega)] | rw [if_neg (by omega)]), hb⟩

theorem els_nils (F : Nat → Prop) (w : World) (m : Nat) : Els (rowK spanK) F w (List.replicate m (Value.slice none 0 0)) (List.replicate m []) := by
  induction m with
  | zero => exact rfl
  | succ m ih => exact ⟨⟨.slice none 0 0, rfl, Rw.nil _ _ _⟩, ih⟩

theorem new_intk {X : Nat → Prop} {lo b rb hb n m : Nat} {w : World} (hn0 : 0 < n) (hn1 : n ≤ 64) (hm1 : m ≤ 8) (l1 : lo ≤ b) (l2 : lo ≤ rb) (l3 : lo ≤ hb) (d1 : b ≠ rb) (d2 : b ≠ hb) (d3 : rb ≠ hb)
    (h1 : Blk w b #[.slice (some ⟨rb, 0, none⟩) n n, .int .i64 0, .int .i64 0, .slice (some ⟨hb, 0, none⟩) m m] 62) (h2 : Blk w rb (madeCells #[Value.slice none 0 0] n) 37) (h3 : Blk w hb (madeCells #[Value.slice none 0 0] m) 37) :
    Intk X lo w.heap.size w b rb hb ⟨n, m, 0, 0, [], List.replicate m []⟩ where
  hi_le := Nat.le_refl _
  l1 := l1
  l2 := l2
  l3 := l3
  u1 := h1.lt
  u2 := h2.lt
  u3 := h3.lt
  d1 := d1
  d2 := d2
  d3 := d3
  blk := h1
  ring := ⟨_, h2, by rw [size_madeCells], fun i hi => by simp at hi⟩
  held := ⟨_, h3, by rw [toList_madeCells_one]; exact els_nils _ _ _⟩
  n0 := hn0
  n1 := hn1
  m1 := by simp
  m2 := hm1
  len := rfl
  fit := by simp
  big := by simp
  sm := by simp
  sh := fun l hl => by rw [List.eq_of_mem_replicate hl]; simp

set_option maxRecDepth 100000 in
theorem new_good {X : Nat → Prop} (n m : Nat) (hn0 : 0 < n) (hn1 : n ≤ 64) (hm0 : 0 < m) (hm1 : m ≤ 8) (w : World) :
    Calls Try.prog 7 #[.agg #[.int .i64 (n : Int), .int .i64 (m : Int)]] w fun e w' => ∃ b rb hb, e = .returned (.tuple #[.pointer (some ⟨b, 0, none⟩), .int .i64 0]) ∧
      Intk X w.heap.size w'.heap.size w' b rb hb ⟨n, m, 0, 0, [], List.replicate m []⟩ ∧ Below w.heap.size w w' := by
  have hmk := fun w => make_spans n hn1 w
  have hmk2 := fun w => make_spans m (by omega) w
  go_enter Try.func7, Try.ntmps7
  go_wp2_with fail
  refine calls_gen fun W1 hW1 => ?_
  have HW1 : Hid (Below w.heap.size w W1) := by rw [hW1]; exact (Below.refl _ _).alloc (Nat.le_refl _) _
  have HK1 : Hid (Blk W1 w.heap.size #[.int .i64 (n : Int), .int .i64 (m : Int)] 27) := by rw [hW1]; exact Blk.at_new rfl rfl
  clear hW1
  refine Calls.mono (checkSetup_any n m W1) ?_
  rw [if_neg (by omega)]
  rintro e w2 ⟨rfl, hb2⟩
  have HW2 : Hid (Below w.heap.size w w2) := HW1.out.trans (hb2.mono HW1.out.size)
  have HK2 := Lib.hid (HK1.out.below hb2 HK1.out.lt)
  clear hb2 HW1 HK1
  have k0 : w2.cell? ⟨w.heap.size, 0, none⟩ = some (.int .i64 (n : Int)) := HK2.out.cell rfl
  have k1 : w2.cell? ⟨w.heap.size, 1, none⟩ = some (.int .i64 (m : Int)) := HK2.out.cell rfl
  have hwl : w.heap.size < w2.heap.size := HK2.out.lt
  go_wp2_with fail
  go_region
  all_goals
    go_wp2_with fail
    go_ret2
    first
      | exact ⟨w2.heap.size + 1 + 1, w2.heap.size, w2.heap.size + 1, rfl, new_intk hn0 hn1 hm1 (by omega) (by omega) (by omega) (by omega) (by omega) (by omega) (Blk.at_new (by simp) rfl) ((Blk.at_new rfl rfl).alloc _ |>.alloc _) ((Blk.at_new (by simp) rfl).alloc _), below_drew (((HW2.out.alloc (by omega) _).alloc (by simp; omega) _).alloc (by simp; omega) _)⟩
      | exact ⟨w2.heap.size + 1 + 1, w2.heap.size + 1, w2.heap.size, rfl, new_intk hn0 hn1 hm1 (by omega) (by omega) (by omega) (by omega) (by omega) (by omega) (Blk.at_new (by simp) rfl) ((Blk.at_new (by simp) rfl).alloc _) ((Blk.at_new rfl rfl).alloc _ |>.alloc _), below_drew (((HW2.out.alloc (by omega) _).alloc (by simp; omega) _).alloc (by simp; omega) _)⟩
end Go.Proofs.Ytiofhmlmimbngaa
