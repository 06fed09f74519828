/- Chapter 19's document: its intake in memory; New. -/
import Derived.Test.YtiofhmlmimbngaaAppQ
import Derived.Test.YtiofhmlmimbngaaIntakeH
namespace Go.Proofs.Ytiofhmlmimbngaa
open Go.RowKit

def fr (lo hi b hb : Nat) (qb : Option Nat) (k : Nat) : Prop := lo ≤ k ∧ k < hi ∧ k ≠ b ∧ k ≠ hb ∧ qb ≠ some k

/-- The document's queue: nil, or a slice somewhere within a block of its own. -/
def QV (lo hi : Nat) (w : World) (b hb : Nat) (qb : Option Nat) (qv : Value) (queue : List (List Sp.T)) : Prop :=
  (qb = none ∧ qv = .slice none 0 0 ∧ queue = []) ∨
  ∃ g off cap qc, qb = some g ∧ qv = .slice (some ⟨g, off, none⟩) queue.length cap ∧ lo ≤ g ∧ g < hi ∧ g ≠ b ∧ g ≠ hb ∧ Blk w g qc 37 ∧ queue.length ≤ cap ∧ cap ≤ maxLen ∧ off + cap ≤ qc.size ∧
    ∀ i (h : i < queue.length), ∃ v, qc[off + i]? = some v ∧ Rw spanK (fr lo hi b hb qb) w v queue[i]

theorem QV.isSlice {lo hi b hb : Nat} {w : World} {qb : Option Nat} {qv : Value} {queue : List (List Sp.T)} (h : QV lo hi w b hb qb qv queue) : ∃ a c, qv = .slice a queue.length c := by
  rcases h with ⟨_, rfl, rfl⟩ | ⟨g, off, cap, qc, _, rfl, _⟩
  · exact ⟨_, _, rfl⟩
  · exact ⟨_, _, rfl⟩

theorem QV.keep {lo hi hi' b hb : Nat} {w w' : World} {qb : Option Nat} {qv : Value} {queue : List (List Sp.T)} (h : QV lo hi w b hb qb qv queue) (hk : ∀ k, k < hi → k ≠ b → k ≠ hb → w'.heap[k]? = w.heap[k]?) (hh : hi ≤ hi') : QV lo hi' w' b hb qb qv queue := by
  rcases h with h | ⟨g, off, cap, qc, h1, h2, h3, h4, h5, h6, h7, h8, h9, h10, h11⟩
  · exact .inl h
  · refine .inr ⟨g, off, cap, qc, h1, h2, h3, Nat.lt_of_lt_of_le h4 hh, h5, h6, h7.same (hk g h4 h5 h6), h8, h9, h10, fun i hi => ?_⟩
    obtain ⟨v, g1, g2⟩ := h11 i hi
    exact ⟨v, g1, (g2.keep fun k _ hF => hk k hF.2.1 hF.2.2.1 hF.2.2.2.1).mono fun k _ hF => ⟨hF.1, Nat.lt_of_lt_of_le hF.2.1 hh, hF.2.2⟩⟩

structure RIntk (lo hi : Nat) (w : World) (b hb : Nat) (qb : Option Nat) (q : Iq) : Prop where
  hi_le : hi ≤ w.heap.size
  l1 : lo ≤ b
  l3 : lo ≤ hb
  u1 : b < hi
  u3 : hb < hi
  d2 : b ≠ hb
  blk : ∃ qv, Blk w b #[.bool true, .int .i64 (q.n : Int), .int .i64 (q.m : Int), qv, .slice (some ⟨hb, 0, none⟩) q.m q.m] 71 ∧ QV lo hi w b hb qb qv q.queue
  held : ∃ hc, Blk w hb hc 37 ∧ Els (rowK spanK) (fr lo hi b hb qb) w hc.toList q.held
  qlo : ∀ g, qb = some g → lo ≤ g ∧ g < hi ∧ g ≠ b ∧ g ≠ hb
  n0 : 0 < q.n
  n1 : q.n ≤ 64
  m1 : q.held.length = q.m
  m2 : q.m ≤ 8
  fit : q.queue.length ≤ q.n
  sm : ∀ l ∈ q.queue, l.length ≤ 1000000
  sh : ∀ l ∈ q.held, l.length ≤ 1000000

section
variable {lo hi b hb : Nat} {qb : Option Nat} {w w' : World} {q : Iq}
theorem RIntk.below (h : RIntk lo hi w b hb qb q) (k : Below hi w w') : RIntk lo hi w' b hb qb q where
  hi_le := Nat.le_trans h.hi_le k.size
  l1 := h.l1
  l3 := h.l3
  u1 := h.u1
  u3 := h.u3
  d2 := h.d2
  blk := by
    obtain ⟨qv, g1, g2⟩ := h.blk
    exact ⟨qv, g1.below k h.u1, g2.keep (fun j hj _ _ => k.block j hj) (Nat.le_refl _)⟩
  held := by
    obtain ⟨hc, h1, h2⟩ := h.held
    exact ⟨hc, h1.below k h.u3, h2.keep fun j _ hF => k.block j hF.2.1⟩
  qlo := h.qlo
  n0 := h.n0
  n1 := h.n1
  m1 := h.m1
  m2 := h.m2
  fit := h.fit
  sm := h.sm
  sh := h.sh
theorem RIntk.next_ (h : RIntk lo hi w b hb qb q) (k : Below w.heap.size w w') : RIntk lo hi w' b hb qb q := h.below (k.mono h.hi_le)
theorem RIntk.up {hi' : Nat} (h : RIntk lo hi w b hb qb q) (h1 : hi ≤ hi') (h2 : hi' ≤ w.heap.size) : RIntk lo hi' w b hb qb q where
  hi_le := h2
  l1 := h.l1
  l3 := h.l3
  u1 := Nat.lt_of_lt_of_le h.u1 h1
  u3 := Nat.lt_of_lt_of_le h.u3 h1
  d2 := h.d2
  blk := by
    obtain ⟨qv, g1, g2⟩ := h.blk
    exact ⟨qv, g1, g2.keep (fun _ _ _ _ => rfl) h1⟩
  held := by
    obtain ⟨hc, g1, g2⟩ := h.held
    exact ⟨hc, g1, g2.mono fun j _ hF => ⟨hF.1, Nat.lt_of_lt_of_le hF.2.1 h1, hF.2.2⟩⟩
  qlo := fun g hg => by
    obtain ⟨g1, g2, g3⟩ := h.qlo g hg
    exact ⟨g1, Nat.lt_of_lt_of_le g2 h1, g3⟩
  n0 := h.n0
  n1 := h.n1
  m1 := h.m1
  m2 := h.m2
  fit := h.fit
  sm := h.sm
  sh := h.sh

theorem rnone_false (h : RIntk lo hi w b hb qb q) :
    Calls Try.prog 39 #[.pointer (some ⟨b, 0, none⟩)] w fun e w' => e = .returned (.bool false) ∧ w' = w := by
  have k0 : w.cell? ⟨b, 0, none⟩ = some (.bool true) := by obtain ⟨_, g, _⟩ := h.blk; exact g.cell rfl
  clear h
  go_enter Try.func39, Try.ntmps39
  go_wp2_with fail
  go_ret
  exact ⟨rfl, rfl⟩

theorem RIntk.row (h : RIntk lo hi w b hb qb q) (i : Nat) (hi' : i < q.held.length) :
    ∃ v, w.cell? ⟨hb, i, none⟩ = some v ∧ Rw spanK (fr lo hi b hb qb) w v q.held[i] := by
  obtain ⟨hc, h1, h2⟩ := h.held
  obtain ⟨v, g1, g2⟩ := h2.get i hi'
  refine ⟨v, h1.cell ?_, g2⟩
  have h3 : ((hc.toList.drop (i * (rowK spanK).sz)).take (rowK spanK).sz)[0]? = some v := by rw [g1]; rfl
  rw [List.getElem?_take, if_pos (by decide), List.getElem?_drop] at h3
  simpa [show (rowK spanK).sz = 1 from rfl] using h3
end

theorem rcheckSetup_any (n m : Int) (w : World) :
    Calls Try.prog 23 #[.agg #[.int .i64 n, .int .i64 m]] w fun e w' => e = .returned (.int .i64 (if n < 1 ∨ 64 < n ∨ m < 1 ∨ 8 < m then 2 else 0)) ∧ Below w.heap.size w w' := by
  have hb : Below w.heap.size w (w.alloc (.cells #[.int .i64 n, .int .i64 m] 27)) := (Below.refl _ _).alloc (Nat.le_refl _) _
  go_enter Try.func23, Try.ntmps23
  go_wp2_with fail
  all_goals
    go_ret
    first | exact ⟨rfl, hb⟩ | exact ⟨ret_int (by first | rw [if_pos (by omega)] | rw [if_neg (by omega)]), hb⟩

theorem rnew_intk {lo b hb n m : Nat} {w : World} (hn0 : 0 < n) (hn1 : n ≤ 64) (hm1 : m ≤ 8) (l1 : lo ≤ b) (l3 : lo ≤ hb) (d2 : b ≠ hb)
    (h1 : Blk w b #[.bool true, .int .i64 (n : Int), .int .i64 (m : Int), .slice none 0 0, .slice (some ⟨hb, 0, none⟩) m m] 71) (h3 : Blk w hb (madeCells #[Value.slice none 0 0] m) 37) :
    RIntk lo w.heap.size w b hb none ⟨n, m, 0, 0, [], List.replicate m []⟩ where
  hi_le := Nat.le_refl _
  l1 := l1
  l3 := l3
  u1 := h1.lt
  u3 := h3.lt
  d2 := d2
  blk := ⟨_, h1, .inl ⟨rfl, rfl, rfl⟩⟩
  held := ⟨_, h3, by rw [toList_madeCells_one]; exact els_nils _ _ _⟩
  qlo := fun g hg => by cases hg
  n0 := hn0
  n1 := hn1
  m1 := by simp
  m2 := hm1
  fit := by simp
  sm := by simp
  sh := fun l hl => by rw [List.eq_of_mem_replicate hl]; simp

set_option maxRecDepth 100000 in
theorem rnew_good (n m : Nat) (hn0 : 0 < n) (hn1 : n ≤ 64) (hm0 : 0 < m) (hm1 : m ≤ 8) (w : World) :
    Calls Try.prog 21 #[.agg #[.int .i64 (n : Int), .int .i64 (m : Int)]] w fun e w' => ∃ b hb, e = .returned (.tuple #[.pointer (some ⟨b, 0, none⟩), .int .i64 0]) ∧
      RIntk w.heap.size w'.heap.size w' b hb none ⟨n, m, 0, 0, [], List.replicate m []⟩ ∧ Below w.heap.size w w' := by
  have hmk2 := fun w => make_spans m (by omega) w
  go_enter Try.func21, Try.ntmps21
  go_wp2_with fail
  refine calls_gen fun W1 hW1 => ?_
  have HW1 : Hid (Below w.heap.size w W1) := by rw [hW1]; exact (Below.refl _ _).alloc (Nat.le_refl _) _
  have HK1 : Hid (Blk W1 w.heap.size #[.int .i64 (n : Int), .int .i64 (m : Int)] 27) := by rw [hW1]; exact Blk.at_new rfl rfl
  clear hW1
  refine Calls.mono (rcheckSetup_any n m W1) ?_
  rw [if_neg (by omega)]
  rintro e w2 ⟨rfl, hb2⟩
  have HW2 : Hid (Below w.heap.size w w2) := HW1.out.trans (hb2.mono HW1.out.size)
  have HK2 := Lib.hid (HK1.out.below hb2 HK1.out.lt)
  clear hb2 HW1 HK1
  have k0 : w2.cell? ⟨w.heap.size, 0, none⟩ = some (.int .i64 (n : Int)) := HK2.out.cell rfl
  have k1 : w2.cell? ⟨w.heap.size, 1, none⟩ = some (.int .i64 (m : Int)) := HK2.out.cell rfl
  have hwl : w.heap.size < w2.heap.size := HK2.out.lt
  go_wp2_with fail
  go_region
  all_goals
    go_wp2_with fail
    go_ret2
    exact ⟨w2.heap.size + 1, w2.heap.size, rfl, rnew_intk hn0 hn1 hm1 (by omega) (by omega) (by omega) (Blk.at_new (by simp) rfl) ((Blk.at_new rfl rfl).alloc _), below_drew ((HW2.out.alloc (by omega) _).alloc (by simp; omega) _)⟩
end Go.Proofs.Ytiofhmlmimbngaa
