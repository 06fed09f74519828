/- Merge: Peek, Next of a merger that tells nothing more, or that is not there. -/
import Derived.Test.YtmpapipobjoboaaMgNew
namespace Go.Proofs.Ytmpapipobjoboaa
open Go.RowKit

def NoneP (w : World) (x : Ending) (w' : World) : Prop := x = .returned (.tuple #[.agg #[.slice none 0 0, .int .u64 0, .int .i64 0, .slice none 0 0], .bool false]) ∧ Below w.heap.size w w'

/-- A merger without heads. -/
def Bare (w : World) (p : Value) : Prop := p = .pointer none ∨ ∃ m a c, p = .pointer (some ⟨m, 0, none⟩) ∧ w.cell? ⟨m, 0, none⟩ = some (.slice a 0 c)
theorem Bare.below {w w' : World} {p : Value} (h : Bare w p) (hb : Below w.heap.size w w') : Bare w' p := by
  rcases h with h | ⟨m, a, c, h1, h2⟩
  · exact .inl h
  · exact .inr ⟨m, a, c, h1, (hb.cell (p := ⟨m, 0, none⟩) (World.block_lt_of_cell? _ _ h2)).trans h2⟩
theorem Hv.bare {B m : Nat} {F : Nat → Prop} {w : World} {v : Value} (h : Hv B F w m v []) : Bare w (.pointer (some ⟨m, 0, none⟩)) := by
  obtain ⟨a, c, rfl⟩ := h.own.isSlice
  exact .inr ⟨m, a, c, rfl, h.cell⟩

set_option maxRecDepth 100000 in
theorem peek_none {w : World} {p : Value} (h : Bare w p) : Calls Try.prog 20 #[p] w (NoneP w) := by
  rcases h with rfl | ⟨m, a, c, rfl, hc⟩
  · go_enter Try.func20, Try.ntmps20
    go_upto_region 2 with fail
    go_wp2_with fail
    refine bodyPost_ret (results_cell_tmp1 (p := 2) (t := 3) rfl _ _ w.heap.size 29 #[.slice none 0 0, .int .u64 0, .int .i64 0, .slice none 0 0] _ rfl (by exact Blk.alloc_new _ _ _) Try.underlying29 rfl (by kernel_rfl)) rfl ?_
    exact ⟨rfl, (Below.refl _ _).alloc (Nat.le_refl _) _⟩
  · have hm := World.block_lt_of_cell? _ _ hc
    have hc2 : ∀ o, (w.alloc o).cell? ⟨m, 0, none⟩ = some (.slice a 0 c) := fun o => (World.cell?_alloc_lt w o _ hm).trans hc
    go_enter Try.func20, Try.ntmps20
    go_upto_region 2 with fail
    go_wp2_with fail
    refine bodyPost_ret (results_cell_tmp1 (p := 2) (t := 3) rfl _ _ w.heap.size 29 #[.slice none 0 0, .int .u64 0, .int .i64 0, .slice none 0 0] _ rfl (by exact Blk.alloc_new _ _ _) Try.underlying29 rfl (by kernel_rfl)) rfl ?_
    exact ⟨rfl, (Below.refl _ _).alloc (Nat.le_refl _) _⟩

set_option maxRecDepth 100000 in
theorem next_none {w : World} {p : Value} (h : Bare w p) : Calls Try.prog 23 #[p] w (NoneP w) := by
  have HH := Lib.hid h
  clear h
  go_enter Try.func23, Try.ntmps23
  go_upto_region 1 with fail
  refine wp_gen fun w1 hw1 => ?_
  have HW1 : Hid (Below w.heap.size w w1) := by rw [hw1]; exact (Below.refl _ _).alloc (Nat.le_refl _) _
  have HR1 : Hid (Blk w1 w.heap.size #[.slice none 0 0, .int .u64 0, .int .i64 0, .slice none 0 0] 29) := by rw [hw1]; exact Blk.alloc_new _ _ _
  clear hw1
  go_wp2_with fail
  refine Calls.mono (peek_none (HH.out.below HW1.out)) ?_
  rintro _ w2 ⟨rfl, hb2⟩
  have HW2 : Hid (Below w.heap.size w w2) := HW1.out.trans (hb2.mono HW1.out.size)
  have HR2 := Lib.hid (HR1.out.below hb2 HR1.out.lt)
  clear hb2 HR1 HW1
  go_upto_region 3 with fail
  refine wp_gen fun w3 hw3 => ?_
  have HW3 : Hid (Below w.heap.size w w3) := by rw [hw3]; exact HW2.out.alloc HW2.out.size _
  have HR3 : Hid (Blk w3 w.heap.size #[.slice none 0 0, .int .u64 0, .int .i64 0, .slice none 0 0] 29) := by rw [hw3]; exact HR2.out.alloc _
  have HB3 : Hid (Blk w3 w2.heap.size #[.slice none 0 0, .int .u64 0, .int .i64 0, .slice none 0 0] 29) := by rw [hw3]; exact Blk.alloc_new _ _ _
  clear hw3
  have q0 : w3.cell? ⟨w2.heap.size, 0, none⟩ = some (.slice none 0 0) := HB3.out.cell rfl
  have q1 : w3.cell? ⟨w2.heap.size, 1, none⟩ = some (.int .u64 0) := HB3.out.cell rfl
  have q2 : w3.cell? ⟨w2.heap.size, 2, none⟩ = some (.int .i64 0) := HB3.out.cell rfl
  have q3 : w3.cell? ⟨w2.heap.size, 3, none⟩ = some (.slice none 0 0) := HB3.out.cell rfl
  go_wp2_with (with_reducible refine pause_store ?_)
  refine Pause.go (wpList_store_agg rfl _ _ _ rfl w.heap.size 0 rfl _ rfl _ _ HR3.out (by kernel_rfl) (by decide) (fun u hu => by simp at hu; rcases hu with rfl | rfl | rfl | rfl <;> rfl) ?_)
  rw [over_all _ _ (by rfl)]
  refine list_gen fun W4 hW4 => ?_
  have HC4 : Hid (Blk W4 w.heap.size #[.slice none 0 0, .int .u64 0, .int .i64 0, .slice none 0 0] 29) := by rw [hW4]; exact HR3.out.row _
  have HW4 : Hid (Below w.heap.size w W4) := by rw [hW4]; exact below_setRow HW3.out (Nat.le_refl _) _
  clear hW4
  go_wp2_with fail
  refine bodyPost_ret (results_cell_tmp1 (p := 2) (t := 3) rfl _ _ w.heap.size 29 #[.slice none 0 0, .int .u64 0, .int .i64 0, .slice none 0 0] _ rfl HC4.out Try.underlying29 rfl (by kernel_rfl)) rfl ?_
  exact ⟨rfl, HW4.out⟩
end Go.Proofs.Ytmpapipobjoboaa
