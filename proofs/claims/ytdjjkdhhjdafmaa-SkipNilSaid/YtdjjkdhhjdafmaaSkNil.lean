/- The law SkipNil: its walk. -/
import Derived.Test.YtdjjkdhhjdafmaaSkNil0
namespace Go.Proofs.Ytdjjkdhhjdafmaa
open Go.RowKit

def actCells (a0 : Option Addr) (n0 c0 : Nat) (s k : Int) (a1 : Option Addr) (n1 c1 : Nat) (hh : Int) (a2 : Option Addr) (n2 c2 : Nat) (at_ nn : Int) : Array Value :=
  #[.slice a0 n0 c0, .int .u64 s, .int .i64 k, .slice a1 n1 c1, .int .i64 hh, .slice a2 n2 c2, .int .u64 at_, .int .i64 nn]

theorem blk3_0 (w : World) (o2 o3 : Obj) (c : Array Value) (T : TypeId) : Blk (((w.alloc (.cells c T)).alloc o2).alloc o3) w.heap.size c T := heap_three_0 _ _ _ _
theorem blk3_1 (w : World) (o1 o3 : Obj) (c : Array Value) (T : TypeId) : Blk (((w.alloc o1).alloc (.cells c T)).alloc o3) (w.heap.size + 1) c T := heap_three_1 _ _ _ _
theorem blk3_2 (w : World) (o1 o2 : Obj) (c : Array Value) (T : TypeId) : Blk (((w.alloc o1).alloc o2).alloc (.cells c T)) (w.heap.size + 1 + 1) c T := heap_three_2 _ _ _ _

set_option maxRecDepth 100000 in
set_option maxHeartbeats 4000000 in
theorem skipNil_any (W : World) (a0 : Option Addr) (n0 c0 : Nat) (s k : Int) (a1 : Option Addr) (n1 c1 : Nat) (hh : Int) (a2 : Option Addr) (n2 c2 : Nat) (at_ nn : Int) :
    Calls Try.prog 6 #[.agg (actCells a0 n0 c0 s k a1 n1 c1 hh a2 n2 c2 at_ nn)] W fun e w' => e = .returned (.bool true) ∧ Below W.heap.size W w' := by
  unfold actCells
  go_enter Try.func6, Try.ntmps6
  go_wp2_with fail
  refine wp_gen fun w1 hw1 => ?_
  have HW1 : Hid (Below W.heap.size W w1) := by rw [hw1]; exact below_three _ _ _ _
  have HA1 : Hid (Blk w1 W.heap.size (actCells a0 n0 c0 s k a1 n1 c1 hh a2 n2 c2 at_ nn) 52) := by rw [hw1]; exact blk3_0 _ _ _ _ _
  have HZ1 : Hid (Blk w1 (W.heap.size + 1) #[.pointer none, .int .i64 0, .int .i64 0] 59) := by rw [hw1]; exact blk3_1 _ _ _ _ _
  have HP1 : Hid (Blk w1 (W.heap.size + 1 + 1) #[.pointer none, .pointer (some ⟨W.heap.size + 1, 0, none⟩)] 26) := by rw [hw1]; exact blk3_2 _ _ _ _ _
  clear hw1
  go_loopw [4] (fun i wr => ∃ j : Nat, i = .int .i64 (j : Int) ∧ j ≤ 2 ∧ Hid (Below w1.heap.size w1 wr)) (fun i _ => 2 - (intOf i).toNat)
  case atStart => exact ⟨0, rfl, by omega, Below.refl _ _⟩
  case round =>
    obtain ⟨j, rfl, hj, HW⟩ := hrel
    by_cases hlt : j < 2
    · have HPr : Hid (Blk wr (W.heap.size + 1 + 1) #[.pointer none, .pointer (some ⟨W.heap.size + 1, 0, none⟩)] 26) := HP1.out.below HW.out HP1.out.lt
      have HZr : Hid (Blk wr (W.heap.size + 1) #[.pointer none, .int .i64 0, .int .i64 0] 59) := HZ1.out.below HW.out HZ1.out.lt
      have HAr : Hid (Blk wr W.heap.size (actCells a0 n0 c0 s k a1 n1 c1 hh a2 n2 c2 at_ nn) 52) := HA1.out.below HW.out HA1.out.lt
      obtain ⟨p, kp, hp⟩ : ∃ p : Option Addr, wr.cell? ⟨W.heap.size + 1 + 1, j, none⟩ = some (.pointer p) ∧ NoTab wr (.pointer p) := by
        rcases (by omega : j = 0 ∨ j = 1) with rfl | rfl
        · exact ⟨none, HPr.out.cell rfl, .inl rfl⟩
        · exact ⟨_, HPr.out.cell rfl, .inr ⟨_, rfl, HZr.out.lt, HZr.out.cell rfl⟩⟩
      have HN := Lib.hid hp
      clear hp HPr HZr
      have k5 : wr.cell? ⟨W.heap.size, 5, none⟩ = some (.slice a2 n2 c2) := HAr.out.cell rfl
      have k6 : wr.cell? ⟨W.heap.size, 6, none⟩ = some (.int .u64 at_) := HAr.out.cell rfl
      have hlt' : (j : Int) < 2 := by omega
      go_wp2_with fail
      clear k5 k6 kp
      refine Calls.mono (skGet_none wr _ HN.out a2 n2 c2 at_) ?_
      rintro _ w2 ⟨rfl, hb2⟩
      unfold zeroE
      go_upto_region 7 with fail
      refine wp_gen fun w3 hw3 => ?_
      have HC3 : Hid (Below w2.heap.size w2 w3) := by rw [hw3]; exact (Below.refl _ _).alloc (Nat.le_refl _) _
      have HX3 : Hid (Blk w3 w2.heap.size zeroE 34) := by rw [hw3]; exact Blk.at_new rfl rfl
      clear hw3
      have HB3 : Hid (Below wr.heap.size wr w3) := hb2.trans (HC3.out.mono hb2.size)
      have HN3 := Lib.hid (HN.out.below HB3.out)
      have HA3 := Lib.hid (HAr.out.below HB3.out HAr.out.lt)
      have HW3 : Hid (Below w1.heap.size w1 w3) := HW.out.trans (HB3.out.mono HW.out.size)
      clear hb2 HC3 HB3 HN HAr
      generalize w2.heap.size = z1 at *
      have k5 : w3.cell? ⟨W.heap.size, 5, none⟩ = some (.slice a2 n2 c2) := HA3.out.cell rfl
      have k6 : w3.cell? ⟨W.heap.size, 6, none⟩ = some (.int .u64 at_) := HA3.out.cell rfl
      go_wp2_with fail
      clear k5 k6
      refine Calls.mono (skSeek_none w3 _ HN3.out a2 n2 c2 at_) ?_
      rintro _ w4 ⟨rfl, hb4⟩
      unfold zeroE
      go_upto_region 8 with fail
      refine wp_gen fun w5 hw5 => ?_
      have HC5 : Hid (Below w4.heap.size w4 w5) := by rw [hw5]; exact (Below.refl _ _).alloc (Nat.le_refl _) _
      have HY5 : Hid (Blk w5 w4.heap.size zeroE 34) := by rw [hw5]; exact Blk.at_new rfl rfl
      clear hw5
      have HB5 : Hid (Below w3.heap.size w3 w5) := hb4.trans (HC5.out.mono hb4.size)
      have HN5 := Lib.hid (HN3.out.below HB5.out)
      have HA5 := Lib.hid (HA3.out.below HB5.out HA3.out.lt)
      have HX5 := Lib.hid (HX3.out.below HB5.out HX3.out.lt)
      have HW5 : Hid (Below w1.heap.size w1 w5) := HW3.out.trans (HB5.out.mono HW3.out.size)
      clear hb4 HC5 HB5 HN3 HA3 HX3 HW3
      generalize w4.heap.size = z2 at *
      have qa0 : w5.cell? ⟨W.heap.size, 0, none⟩ = some (.slice a0 n0 c0) := HA5.out.cell rfl
      have qa1 : w5.cell? ⟨W.heap.size, 1, none⟩ = some (.int .u64 s) := HA5.out.cell rfl
      have qa2 : w5.cell? ⟨W.heap.size, 2, none⟩ = some (.int .i64 k) := HA5.out.cell rfl
      have qa3 : w5.cell? ⟨W.heap.size, 3, none⟩ = some (.slice a1 n1 c1) := HA5.out.cell rfl
      have qa4 : w5.cell? ⟨W.heap.size, 4, none⟩ = some (.int .i64 hh) := HA5.out.cell rfl
      go_wp2_with fail
      clear qa0 qa1 qa2 qa3 qa4
      refine Calls.mono (skInsert_none w5 _ HN5.out a0 n0 c0 s k a1 n1 c1 hh) ?_
      rintro _ w6 ⟨rfl, hb⟩
      have HN6 := Lib.hid (HN5.out.below hb)
      have HA6 := Lib.hid (HA5.out.below hb HA5.out.lt)
      have HX6 := Lib.hid (HX5.out.below hb HX5.out.lt)
      have HY6 := Lib.hid (HY5.out.below hb HY5.out.lt)
      have HW6 : Hid (Below w1.heap.size w1 w6) := HW5.out.trans (hb.mono HW5.out.size)
      clear hb HN5 HA5 HX5 HY5 HW5
      have qx0 : w6.cell? ⟨z1, 0, none⟩ = some (.slice none 0 0) := HX6.out.cell rfl
      have qx1 : w6.cell? ⟨z1, 1, none⟩ = some (.int .u64 0) := HX6.out.cell rfl
      have qx2 : w6.cell? ⟨z1, 2, none⟩ = some (.int .i64 0) := HX6.out.cell rfl
      have qx3 : w6.cell? ⟨z1, 3, none⟩ = some (.slice none 0 0) := HX6.out.cell rfl
      go_wp2_with fail
      clear qx0 qx1 qx2 qx3
      refine Calls.mono (kitEntry_zero w6) ?_
      rintro _ w7 ⟨rfl, hb⟩
      have HN7 := Lib.hid (HN6.out.below hb)
      have HA7 := Lib.hid (HA6.out.below hb HA6.out.lt)
      have HX7 := Lib.hid (HX6.out.below hb HX6.out.lt)
      have HY7 := Lib.hid (HY6.out.below hb HY6.out.lt)
      have HW7 : Hid (Below w1.heap.size w1 w7) := HW6.out.trans (hb.mono HW6.out.size)
      clear hb HN6 HA6 HX6 HY6 HW6
      have qy0 : w7.cell? ⟨z2, 0, none⟩ = some (.slice none 0 0) := HY7.out.cell rfl
      have qy1 : w7.cell? ⟨z2, 1, none⟩ = some (.int .u64 0) := HY7.out.cell rfl
      have qy2 : w7.cell? ⟨z2, 2, none⟩ = some (.int .i64 0) := HY7.out.cell rfl
      have qy3 : w7.cell? ⟨z2, 3, none⟩ = some (.slice none 0 0) := HY7.out.cell rfl
      go_wp2_with fail
      clear qy0 qy1 qy2 qy3
      refine Calls.mono (kitEntry_zero w7) ?_
      rintro _ w8 ⟨rfl, hb⟩
      have HN8 := Lib.hid (HN7.out.below hb)
      have HA8 := Lib.hid (HA7.out.below hb HA7.out.lt)
      have HX8 := Lib.hid (HX7.out.below hb HX7.out.lt)
      have HY8 := Lib.hid (HY7.out.below hb HY7.out.lt)
      have HW8 : Hid (Below w1.heap.size w1 w8) := HW7.out.trans (hb.mono HW7.out.size)
      clear hb HN7 HA7 HX7 HY7 HW7
      go_wp2_with fail
      refine Calls.mono (skAll_none w8 _ HN8.out) ?_
      rintro _ v1 ⟨rfl, rfl⟩
      have qa5 : v1.cell? ⟨W.heap.size, 5, none⟩ = some (.slice a2 n2 c2) := HA8.out.cell rfl
      go_wp2_with fail
      clear qa5
      refine Calls.mono (skFrom_none v1 _ HN8.out a2 n2 c2 9) ?_
      rintro _ w9 ⟨rfl, hb⟩
      have HN9 := Lib.hid (HN8.out.below hb)
      have HA9 := Lib.hid (HA8.out.below hb HA8.out.lt)
      have HX9 := Lib.hid (HX8.out.below hb HX8.out.lt)
      have HY9 := Lib.hid (HY8.out.below hb HY8.out.lt)
      have HW9 : Hid (Below w1.heap.size w1 w9) := HW8.out.trans (hb.mono HW8.out.size)
      clear hb HN8 HA8 HX8 HY8 HW8
      go_wp2_with fail
      refine Calls.mono (skLen_none w9 _ HN9.out) ?_
      rintro _ v2 ⟨rfl, rfl⟩
      go_wp2_with fail
      refine Calls.mono (skSize_none v2 _ HN9.out) ?_
      rintro _ v3 ⟨rfl, rfl⟩
      have qa5 : v3.cell? ⟨W.heap.size, 5, none⟩ = some (.slice a2 n2 c2) := HA9.out.cell rfl
      have qa6 : v3.cell? ⟨W.heap.size, 6, none⟩ = some (.int .u64 at_) := HA9.out.cell rfl
      go_wp2_with fail
      clear qa5 qa6
      refine Calls.mono (skHeight_none v3 _ HN9.out a2 n2 c2 at_) ?_
      rintro _ v4 ⟨rfl, rfl⟩
      have qa5 : v4.cell? ⟨W.heap.size, 5, none⟩ = some (.slice a2 n2 c2) := HA9.out.cell rfl
      have qa6 : v4.cell? ⟨W.heap.size, 6, none⟩ = some (.int .u64 at_) := HA9.out.cell rfl
      go_wp2_with fail
      clear qa5 qa6
      refine Calls.mono (skSteps_none v4 _ HN9.out a2 n2 c2 at_) ?_
      rintro _ v5 ⟨rfl, rfl⟩
      go_wp2_with fail
      go_roundw
      · exact ⟨j + 1, by go_num, by omega, HW9⟩
      · simp only [intOf]; omega
    · have hlt' : ¬ (j : Int) < 2 := by omega
      go_wp2_with fail
      refine Calls.mono (skLives_any wr) ?_
      rintro _ w2 ⟨rfl, hb2⟩
      have HW2 : Hid (Below w1.heap.size w1 w2) := HW.out.trans (hb2.mono HW.out.size)
      clear hb2
      go_wp2_with fail
      go_ret
      exact ⟨rfl, HW1.out.trans (HW2.out.mono HW1.out.size)⟩
end Go.Proofs.Ytdjjkdhhjdafmaa
