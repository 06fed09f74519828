/- The law MergeNil: its walk. -/
import Derived.Test.YtmpapipobjoboaaMgF
namespace Go.Proofs.Ytmpapipobjoboaa
open Go.RowKit

theorem left_bare {w : World} {p : Value} (h : Bare w p) : Calls Try.prog 22 #[p] w fun x w' => x = .returned (.int .i64 0) ∧ Below w.heap.size w w' := by
  rcases h with rfl | ⟨m, a, c, rfl, hc⟩
  · exact (left_nil w).mono fun _ _ ⟨h1, h2⟩ => ⟨h1, by rw [h2]; exact Below.refl _ _⟩
  · have HM := Lib.hid (World.block_lt_of_cell? _ _ hc)
    have HC := Lib.hid hc
    clear hc
    go_enter Try.func22, Try.ntmps22
    go_upto_region 4 with fail
    refine wp_gen fun w1 hw1 => ?_
    have HW1 : Hid (Below w.heap.size w w1) := by rw [hw1]; exact (Below.refl _ _).alloc (Nat.le_refl _) _
    have HV1 : Hid (Blk w1 w.heap.size #[.slice none 0 0, .bool true] 53) := by rw [hw1]; exact Blk.alloc_new _ _ _
    clear hw1
    have k0 : w1.cell? ⟨m, 0, none⟩ = some (.slice a 0 c) := (HW1.out.cell (p := ⟨m, 0, none⟩) HM.out).trans HC.out
    go_wp2_with fail
    refine wp_loop_rounds 1 ?_
    rw [rounds_succ]
    go_wp2_with fail
    refine wp_loop_rounds 1 ?_
    rw [rounds_succ]
    go_wp2_with fail
    clear k0
    refine Calls.mono (next_none (.inr ⟨w.heap.size, none, 0, rfl, HV1.out.cell rfl⟩)) ?_
    rintro _ w2 ⟨rfl, hb2⟩
    have HW2 : Hid (Below w.heap.size w w2) := HW1.out.trans (hb2.mono HW1.out.size)
    clear hb2
    go_wp2_with fail
    go_ret
    exact ⟨rfl, HW2.out.alloc HW2.out.size _⟩

theorem kentry_zero (F1 F2 : Nat → Prop) (k1 v1 : Value) (w : World) (h1 : Bytes F1 w k1 []) (h2 : Bytes F2 w v1 []) :
    Calls Try.prog 21 #[.agg #[k1, .int .u64 0, .int .i64 0, v1], .agg #[.slice none 0 0, .int .u64 0, .int .i64 0, .slice none 0 0]] w fun e w' => e = .returned (.bool true) ∧ Below w.heap.size w w' :=
  kentry_same F1 F2 Any Any ⟨[], 0, 0, []⟩ k1 v1 (.slice none 0 0) (.slice none 0 0) w h1 h2 (Bytes.nil _ _) (Bytes.nil _ _)

set_option maxRecDepth 100000 in
set_option maxHeartbeats 4000000 in
theorem mergeNil_any (W : World) :
    Calls Try.prog 5 #[] W fun e w' => e = .returned (.bool true) ∧ Below W.heap.size W w' := by
  go_enter Try.func5, Try.ntmps5
  go_wp2_with fail
  refine wp_gen fun w1 hw1 => ?_
  have HW1 : Hid (Below W.heap.size W w1) := by rw [hw1]; exact below_two _ _ _
  have HZ1 : Hid (Blk w1 W.heap.size #[.slice none 0 0, .bool false] 53) := by rw [hw1]; exact (Blk.at_new rfl rfl).alloc _
  have HP1 : Hid (Blk w1 (W.heap.size + 1) #[.pointer none, .pointer (some ⟨W.heap.size, 0, none⟩)] 40) := by rw [hw1]; exact blk_two _ _ _ _
  clear hw1
  go_loopw [2] (fun i wr => ∃ j : Nat, i = .int .i64 (j : Int) ∧ j ≤ 2 ∧ Hid (Below w1.heap.size w1 wr)) (fun i _ => 2 - (intOf i).toNat)
  case atStart => exact ⟨0, rfl, by omega, Below.refl _ _⟩
  case round =>
    obtain ⟨j, rfl, hj, HW⟩ := hrel
    by_cases hlt : j < 2
    · have HPr : Hid (Blk wr (W.heap.size + 1) #[.pointer none, .pointer (some ⟨W.heap.size, 0, none⟩)] 40) := HP1.out.below HW.out HP1.out.lt
      have HZr : Hid (Blk wr W.heap.size #[.slice none 0 0, .bool false] 53) := HZ1.out.below HW.out HZ1.out.lt
      obtain ⟨p, hp1, hp2⟩ : ∃ p : Option Addr, wr.cell? ⟨W.heap.size + 1, j, none⟩ = some (.pointer p) ∧ Bare wr (.pointer p) := by
        rcases (by omega : j = 0 ∨ j = 1) with rfl | rfl
        · exact ⟨none, HPr.out.cell rfl, .inl rfl⟩
        · exact ⟨_, HPr.out.cell rfl, .inr ⟨_, none, 0, rfl, HZr.out.cell rfl⟩⟩
      have HN := Lib.hid hp2
      have HPC := Lib.hid hp1
      have HLT : Hid (W.heap.size + 1 < wr.heap.size) := HPr.out.lt
      clear hp2 HPr HZr
      have hlt' : (j : Int) < 2 := by omega
      go_wp2_with fail
      clear hp1
      refine Calls.mono (next_none HN.out) ?_
      rintro _ w2 ⟨rfl, hb2⟩
      go_upto_region 6 with fail
      refine wp_gen fun w3 hw3 => ?_
      have HC3 : Hid (Below w2.heap.size w2 w3) := by rw [hw3]; exact (Below.refl _ _).alloc (Nat.le_refl _) _
      have HX3 : Hid (Blk w3 w2.heap.size #[.slice none 0 0, .int .u64 0, .int .i64 0, .slice none 0 0] 29) := by rw [hw3]; exact Blk.at_new rfl rfl
      clear hw3
      have HB3 : Hid (Below wr.heap.size wr w3) := hb2.trans (HC3.out.mono hb2.size)
      have HN3 := Lib.hid (HN.out.below HB3.out)
      have HW3 : Hid (Below w1.heap.size w1 w3) := HW.out.trans (HB3.out.mono HW.out.size)
      have HP3 : Hid (w3.cell? ⟨W.heap.size + 1, j, none⟩ = some (.pointer p)) := (HB3.out.cell (p := ⟨W.heap.size + 1, j, none⟩) HLT.out).trans HPC.out
      have HL3 : Hid (W.heap.size + 1 < w3.heap.size) := Nat.lt_of_lt_of_le HLT.out HB3.out.size
      clear hb2 HC3 HB3 HN HPC HLT
      generalize w2.heap.size = z1 at *
      have hp3 := HP3.out
      go_wp2_with fail
      clear hp3
      refine Calls.mono (peek_none HN3.out) ?_
      rintro _ w4 ⟨rfl, hb4⟩
      go_upto_region 7 with fail
      refine wp_gen fun w5 hw5 => ?_
      have HC5 : Hid (Below w4.heap.size w4 w5) := by rw [hw5]; exact (Below.refl _ _).alloc (Nat.le_refl _) _
      have HY5 : Hid (Blk w5 w4.heap.size #[.slice none 0 0, .int .u64 0, .int .i64 0, .slice none 0 0] 29) := by rw [hw5]; exact Blk.at_new rfl rfl
      clear hw5
      have HB5 : Hid (Below w3.heap.size w3 w5) := hb4.trans (HC5.out.mono hb4.size)
      have HN5 := Lib.hid (HN3.out.below HB5.out)
      have HX5 := Lib.hid (HX3.out.below HB5.out HX3.out.lt)
      have HW5 : Hid (Below w1.heap.size w1 w5) := HW3.out.trans (HB5.out.mono HW3.out.size)
      have HP5 : Hid (w5.cell? ⟨W.heap.size + 1, j, none⟩ = some (.pointer p)) := (HB5.out.cell (p := ⟨W.heap.size + 1, j, none⟩) HL3.out).trans HP3.out
      have HL5 : Hid (W.heap.size + 1 < w5.heap.size) := Nat.lt_of_lt_of_le HL3.out HB5.out.size
      clear hb4 HC5 HB5 HN3 HX3 HW3 HP3 HL3
      generalize w4.heap.size = z2 at *
      have x0 : w5.cell? ⟨z1, 0, none⟩ = some (.slice none 0 0) := HX5.out.cell rfl
      have x1 : w5.cell? ⟨z1, 1, none⟩ = some (.int .u64 0) := HX5.out.cell rfl
      have x2 : w5.cell? ⟨z1, 2, none⟩ = some (.int .i64 0) := HX5.out.cell rfl
      have x3 : w5.cell? ⟨z1, 3, none⟩ = some (.slice none 0 0) := HX5.out.cell rfl
      go_wp2_with fail
      clear x0 x1 x2 x3
      refine Calls.mono (kentry_zero Any Any _ _ _ (Bytes.nil _ _) (Bytes.nil _ _)) ?_
      rintro _ w6 ⟨rfl, hb6⟩
      have HY6 := Lib.hid (HY5.out.below hb6 HY5.out.lt)
      have x0 : w6.cell? ⟨z2, 0, none⟩ = some (.slice none 0 0) := HY6.out.cell rfl
      have x1 : w6.cell? ⟨z2, 1, none⟩ = some (.int .u64 0) := HY6.out.cell rfl
      have x2 : w6.cell? ⟨z2, 2, none⟩ = some (.int .i64 0) := HY6.out.cell rfl
      have x3 : w6.cell? ⟨z2, 3, none⟩ = some (.slice none 0 0) := HY6.out.cell rfl
      have HN6 := Lib.hid (HN5.out.below hb6)
      have HW6 : Hid (Below w1.heap.size w1 w6) := HW5.out.trans (hb6.mono HW5.out.size)
      have HP6 : Hid (w6.cell? ⟨W.heap.size + 1, j, none⟩ = some (.pointer p)) := (hb6.cell (p := ⟨W.heap.size + 1, j, none⟩) HL5.out).trans HP5.out
      have HL6 : Hid (W.heap.size + 1 < w6.heap.size) := Nat.lt_of_lt_of_le HL5.out hb6.size
      clear hb6 HN5 HW5 HP5 HL5 HX5 HY5
      go_wp2_with fail
      clear x0 x1 x2 x3
      refine Calls.mono (kentry_zero Any Any _ _ _ (Bytes.nil _ _) (Bytes.nil _ _)) ?_
      rintro _ w7 ⟨rfl, hb7⟩
      have HN7 := Lib.hid (HN6.out.below hb7)
      have HW7 : Hid (Below w1.heap.size w1 w7) := HW6.out.trans (hb7.mono HW6.out.size)
      have hp7 : w7.cell? ⟨W.heap.size + 1, j, none⟩ = some (.pointer p) := (hb7.cell (p := ⟨W.heap.size + 1, j, none⟩) HL6.out).trans HP6.out
      clear hb7 HN6 HW6 HP6 HL6 HY6
      go_wp2_with fail
      clear hp7
      refine Calls.mono (left_bare HN7.out) ?_
      rintro _ w8 ⟨rfl, hb8⟩
      have HW8 : Hid (Below w1.heap.size w1 w8) := HW7.out.trans (hb8.mono HW7.out.size)
      clear hb8
      go_wp2_with fail
      go_roundw
      · exact ⟨j + 1, by go_num, by omega, HW8.out⟩
      · simp only [intOf]; omega
    · have hlt' : ¬ (j : Int) < 2 := by omega
      go_wp2_with fail
      refine Calls.mono (mlives_any _) ?_
      rintro _ w9 ⟨rfl, hb9⟩
      have HW9 : Hid (Below W.heap.size W w9) := (HW1.out.trans (HW.out.mono HW1.out.size)).trans (hb9.mono (Nat.le_trans HW1.out.size HW.out.size))
      clear hb9
      go_wp2_with fail
      go_ret
      exact ⟨rfl, HW9.out⟩
end Go.Proofs.Ytmpapipobjoboaa
