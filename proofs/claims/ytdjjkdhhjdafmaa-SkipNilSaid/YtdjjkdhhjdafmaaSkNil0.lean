/- skip: a table that is not there, or that nobody made. -/
import Derived.Test.YtdjjkdhhjdafmaaSkLives
namespace Go.Proofs.Ytdjjkdhhjdafmaa
open Go.RowKit

/-- No table: nil, or one that nobody made. -/
def NoTab (w : World) (p : Value) : Prop := p = .pointer none ∨ ∃ b, p = .pointer (some ⟨b, 0, none⟩) ∧ b < w.heap.size ∧ w.cell? ⟨b, 0, none⟩ = some (.pointer none)

theorem NoTab.below {w w' : World} {p : Value} (h : NoTab w p) (hb : Below w.heap.size w w') : NoTab w' p := by
  rcases h with h | ⟨b, h1, h2, h3⟩
  · exact .inl h
  · exact .inr ⟨b, h1, Nat.lt_of_lt_of_le h2 hb.size, (World.cell?_of_block (hb.block b h2)).trans h3⟩
theorem NoTab.ptr {w : World} {p : Value} (h : NoTab w p) : ∃ a, p = .pointer a := by
  rcases h with rfl | ⟨b, rfl, _⟩ <;> exact ⟨_, rfl⟩

theorem skNone_true (w : World) (p : Value) (h : NoTab w p) :
    Calls Try.prog 35 #[p] w fun e w' => e = .returned (.bool true) ∧ w' = w := by
  rcases h with rfl | ⟨b, rfl, h2, h3⟩
  · go_enter Try.func35, Try.ntmps35
    go_wp2_with fail
    go_ret
    exact ⟨rfl, rfl⟩
  · go_enter Try.func35, Try.ntmps35
    go_wp2_with fail
    go_ret
    exact ⟨rfl, rfl⟩

theorem skLen_none (w : World) (p : Value) (h : NoTab w p) :
    Calls Try.prog 22 #[p] w fun e w' => e = .returned (.int .i64 0) ∧ w' = w := by
  obtain ⟨ad, rfl⟩ := h.ptr
  go_enter Try.func22, Try.ntmps22
  go_wp2_with fail
  refine Calls.mono (skNone_true w _ h) ?_
  rintro e w1 ⟨rfl, rfl⟩
  go_wp2_with fail
  go_ret
  exact ⟨rfl, rfl⟩

theorem skSize_none (w : World) (p : Value) (h : NoTab w p) :
    Calls Try.prog 14 #[p] w fun e w' => e = .returned (.int .i64 0) ∧ w' = w := by
  obtain ⟨ad, rfl⟩ := h.ptr
  go_enter Try.func14, Try.ntmps14
  go_wp2_with fail
  refine Calls.mono (skNone_true w _ h) ?_
  rintro e w1 ⟨rfl, rfl⟩
  go_wp2_with fail
  go_ret
  exact ⟨rfl, rfl⟩

theorem skHeight_none (w : World) (p : Value) (h : NoTab w p) (a : Option Addr) (n c : Nat) (s : Int) :
    Calls Try.prog 30 #[p, .slice a n c, .int .u64 s] w fun e w' => e = .returned (.int .i64 0) ∧ w' = w := by
  obtain ⟨ad, rfl⟩ := h.ptr
  go_enter Try.func30, Try.ntmps30
  go_wp2_with fail
  refine Calls.mono (skNone_true w _ h) ?_
  rintro e w1 ⟨rfl, rfl⟩
  go_wp2_with fail
  go_ret
  exact ⟨rfl, rfl⟩

theorem skSteps_none (w : World) (p : Value) (h : NoTab w p) (a : Option Addr) (n c : Nat) (s : Int) :
    Calls Try.prog 19 #[p, .slice a n c, .int .u64 s] w fun e w' => e = .returned (.int .i64 0) ∧ w' = w := by
  obtain ⟨ad, rfl⟩ := h.ptr
  go_enter Try.func19, Try.ntmps19
  go_wp2_with fail
  refine Calls.mono (skNone_true w _ h) ?_
  rintro e w1 ⟨rfl, rfl⟩
  go_wp2_with fail
  go_ret
  exact ⟨rfl, rfl⟩

theorem skAll_none (w : World) (p : Value) (h : NoTab w p) :
    Calls Try.prog 12 #[p] w fun e w' => e = .returned (.slice none 0 0) ∧ w' = w := by
  obtain ⟨ad, rfl⟩ := h.ptr
  go_enter Try.func12, Try.ntmps12
  go_wp2_with fail
  refine Calls.mono (skNone_true w _ h) ?_
  rintro e w1 ⟨rfl, rfl⟩
  go_wp2_with fail
  go_ret
  exact ⟨rfl, rfl⟩

theorem skFrom_none (w : World) (p : Value) (h : NoTab w p) (a : Option Addr) (n c : Nat) (s : Int) :
    Calls Try.prog 33 #[p, .slice a n c, .int .i64 s] w fun e w' => e = .returned (.slice none 0 0) ∧ Below w.heap.size w w' := by
  obtain ⟨ad, rfl⟩ := h.ptr
  have HN := Lib.hid h
  clear h
  go_enter Try.func33, Try.ntmps33
  go_upto_region 1 with fail
  refine wp_gen fun w1 hw1 => ?_
  have HW1 : Hid (Below w.heap.size w w1) := by rw [hw1]; exact (Below.refl _ _).alloc (Nat.le_refl _) _
  clear hw1
  go_wp2_with fail
  refine Calls.mono (skNone_true w1 _ (HN.out.below HW1.out)) ?_
  rintro e w2 ⟨rfl, rfl⟩
  go_wp2_with fail
  go_ret
  exact ⟨rfl, HW1.out⟩

theorem skInsert_none (w : World) (p : Value) (h : NoTab w p) (a0 : Option Addr) (n0 c0 : Nat) (s k : Int) (a1 : Option Addr) (n1 c1 : Nat) (x : Int) :
    Calls Try.prog 11 #[p, .agg #[.slice a0 n0 c0, .int .u64 s, .int .i64 k, .slice a1 n1 c1], .int .i64 x] w fun e w' => e = .returned (.int .i64 1) ∧ Below w.heap.size w w' := by
  obtain ⟨ad, rfl⟩ := h.ptr
  have HN := Lib.hid h
  clear h
  go_enter Try.func11, Try.ntmps11
  go_upto_region 1 with fail
  refine wp_gen fun w1 hw1 => ?_
  have HW1 : Hid (Below w.heap.size w w1) := by rw [hw1]; exact (Below.refl _ _).alloc (Nat.le_refl _) _
  clear hw1
  go_wp2_with fail
  refine Calls.mono (skNone_true w1 _ (HN.out.below HW1.out)) ?_
  rintro e w2 ⟨rfl, rfl⟩
  go_wp2_with fail
  go_ret
  exact ⟨rfl, HW1.out⟩

set_option maxRecDepth 100000 in
theorem skGet_none (w : World) (p : Value) (h : NoTab w p) (a : Option Addr) (n c : Nat) (s : Int) :
    Calls Try.prog 17 #[p, .slice a n c, .int .u64 s] w fun e w' => e = .returned (.tuple #[.agg zeroE, .int .i64 1]) ∧ Below w.heap.size w w' := by
  obtain ⟨ad, rfl⟩ := h.ptr
  have HN := Lib.hid h
  clear h
  go_enter Try.func17, Try.ntmps17
  go_upto_region 1 with fail
  refine wp_gen fun w1 hw1 => ?_
  have HW1 : Hid (Below w.heap.size w w1) := by rw [hw1]; exact (Below.refl _ _).alloc (Nat.le_refl _) _
  have HR1 : Hid (Blk w1 w.heap.size zeroE 34) := by rw [hw1]; exact Blk.at_new rfl rfl
  clear hw1
  go_wp2_with fail
  refine Calls.mono (skNone_true w1 _ (HN.out.below HW1.out)) ?_
  rintro e w2 ⟨rfl, rfl⟩
  go_wp2_with (with_reducible refine pause_store ?_)
  refine Pause.go (wpList_store_agg rfl _ _ _ rfl w.heap.size 0 rfl zeroE rfl _ _ HR1.out (by kernel_rfl) (by simp [zeroE]) zeroE_one ?_)
  rw [over_all zeroE _ rfl]
  refine list_gen fun W4 hW4 => ?_
  have HR4 : Hid (Blk W4 w.heap.size zeroE 34) := by rw [hW4]; exact HR1.out.row _
  have HW4 : Hid (Below w.heap.size w W4) := by rw [hW4]; exact below_setRow HW1.out (Nat.le_refl _) _
  clear hW4
  go_wp2_with fail
  refine bodyPost_ret (results_cell_tmp1 (p := 6) (t := 7) rfl _ _ w.heap.size 34 zeroE _ rfl HR4.out Try.underlying34 rfl (by kernel_rfl)) rfl ?_
  exact ⟨rfl, HW4.out⟩

set_option maxRecDepth 100000 in
theorem skSeek_none (w : World) (p : Value) (h : NoTab w p) (a : Option Addr) (n c : Nat) (s : Int) :
    Calls Try.prog 21 #[p, .slice a n c, .int .u64 s] w fun e w' => e = .returned (.tuple #[.agg zeroE, .bool false]) ∧ Below w.heap.size w w' := by
  obtain ⟨ad, rfl⟩ := h.ptr
  have HN := Lib.hid h
  clear h
  go_enter Try.func21, Try.ntmps21
  go_upto_region 1 with fail
  refine wp_gen fun w1 hw1 => ?_
  have HW1 : Hid (Below w.heap.size w w1) := by rw [hw1]; exact (Below.refl _ _).alloc (Nat.le_refl _) _
  have HR1 : Hid (Blk w1 w.heap.size zeroE 34) := by rw [hw1]; exact Blk.at_new rfl rfl
  clear hw1
  go_wp2_with fail
  refine Calls.mono (skNone_true w1 _ (HN.out.below HW1.out)) ?_
  rintro e w2 ⟨rfl, rfl⟩
  go_wp2_with (with_reducible refine pause_store ?_)
  refine Pause.go (wpList_store_agg rfl _ _ _ rfl w.heap.size 0 rfl zeroE rfl _ _ HR1.out (by kernel_rfl) (by simp [zeroE]) zeroE_one ?_)
  rw [over_all zeroE _ rfl]
  refine list_gen fun W4 hW4 => ?_
  have HR4 : Hid (Blk W4 w.heap.size zeroE 34) := by rw [hW4]; exact HR1.out.row _
  have HW4 : Hid (Below w.heap.size w W4) := by rw [hW4]; exact below_setRow HW1.out (Nat.le_refl _) _
  clear hW4
  go_wp2_with fail
  refine bodyPost_ret (results_cell_tmp1 (p := 6) (t := 7) rfl _ _ w.heap.size 34 zeroE _ rfl HR4.out Try.underlying34 rfl (by kernel_rfl)) rfl ?_
  exact ⟨rfl, HW4.out⟩

theorem kitBytes_nil (w : World) :
    Calls Try.prog 16 #[.slice none 0 0, .slice none 0 0] w fun e w' => e = .returned (.bool true) ∧ w' = w := by
  go_enter Try.func16, Try.ntmps16
  go_wp2_with fail
  refine wp_loop_rounds 1 ?_
  rw [rounds_succ]
  go_wp2_with fail
  go_ret
  exact ⟨rfl, rfl⟩

set_option maxRecDepth 100000 in
theorem kitEntry_zero (w : World) :
    Calls Try.prog 18 #[.agg zeroE, .agg zeroE] w fun e w' => e = .returned (.bool true) ∧ Below w.heap.size w w' := by
  unfold zeroE
  go_enter Try.func18, Try.ntmps18
  go_upto_region 1 with fail
  refine wp_gen fun w1 hw1 => ?_
  have HW1 : Hid (Below w.heap.size w w1) := by rw [hw1]; exact below_two _ _ _
  have HA : Hid (Blk w1 w.heap.size zeroE 34) := by rw [hw1]; exact (Blk.at_new rfl rfl).alloc _
  have HB : Hid (Blk w1 (w.heap.size + 1) zeroE 34) := by rw [hw1]; exact blk_two _ _ _ _
  clear hw1
  have a0 : w1.cell? ⟨w.heap.size, 0, none⟩ = some (.slice none 0 0) := HA.out.cell rfl
  have a1 : w1.cell? ⟨w.heap.size, 1, none⟩ = some (.int .u64 0) := HA.out.cell rfl
  have a2 : w1.cell? ⟨w.heap.size, 2, none⟩ = some (.int .i64 0) := HA.out.cell rfl
  have a3 : w1.cell? ⟨w.heap.size, 3, none⟩ = some (.slice none 0 0) := HA.out.cell rfl
  have b0 : w1.cell? ⟨w.heap.size + 1, 0, none⟩ = some (.slice none 0 0) := HB.out.cell rfl
  have b1 : w1.cell? ⟨w.heap.size + 1, 1, none⟩ = some (.int .u64 0) := HB.out.cell rfl
  have b2 : w1.cell? ⟨w.heap.size + 1, 2, none⟩ = some (.int .i64 0) := HB.out.cell rfl
  have b3 : w1.cell? ⟨w.heap.size + 1, 3, none⟩ = some (.slice none 0 0) := HB.out.cell rfl
  go_wp2_with (first | (go_at_call 16; refine (kitBytes_nil _).mono ?_; rintro e w' ⟨rfl, rfl⟩))
  go_ret
  exact ⟨rfl, HW1.out⟩
end Go.Proofs.Ytdjjkdhhjdafmaa
