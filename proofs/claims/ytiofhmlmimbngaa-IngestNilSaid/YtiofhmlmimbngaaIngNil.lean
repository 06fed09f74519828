/- The law IngestNil: its walk. -/
import Derived.Test.YtiofhmlmimbngaaIngA
import Derived.Test.YtiofhmlmimbngaaSpanD
import Derived.Deep.RegionHeld3
namespace Go.Proofs.Ytiofhmlmimbngaa
open Go.RowKit

theorem same_zero (w : World) : Calls Try.prog 26 #[.agg #[.int .u64 0, .int .u64 0, .int .u64 0, .int .u64 0, .string ⟨#[]⟩, .string ⟨#[]⟩, .int .i64 0, .int .i64 0, .int .i64 0, .bool false, .slice none 0 0], .agg #[.int .u64 0, .int .u64 0, .int .u64 0, .int .u64 0, .string ⟨#[]⟩, .string ⟨#[]⟩, .int .i64 0, .int .i64 0, .int .i64 0, .bool false, .slice none 0 0]] w fun e w' => e = .returned (.bool true) ∧ Below w.heap.size w w' :=
  sameSpan_same (fun _ => True) (fun _ => True) Sp.zero (.slice none 0 0) (.slice none 0 0) w (Rw.nil _ _ _) (Rw.nil _ _ _)

set_option maxRecDepth 100000 in
set_option maxHeartbeats 2000000 in
theorem ingestNil_any (W : World) (kind : Int) (a : Option Addr) (n c : Nat) (x : Int) :
    Calls Try.prog 6 #[.agg #[.int .i64 kind, .slice a n c, .int .i64 x]] W fun e w' => e = .returned (.bool true) ∧ Below W.heap.size W w' := by
  go_enter Try.func6, Try.ntmps6
  go_wp2_with fail
  refine wp_gen fun w1 hw1 => ?_
  have HW1 : Hid (Below W.heap.size W w1) := by rw [hw1]; exact (((Below.refl _ _).alloc (Nat.le_refl _) _).alloc (by simp) _).alloc (by simp; omega) _
  have HA1 : Hid (Blk w1 W.heap.size #[.int .i64 kind, .slice a n c, .int .i64 x] 48) := by rw [hw1]; exact ((Blk.at_new rfl rfl).alloc _).alloc _
  have HZ1 : Hid (Blk w1 (W.heap.size + 1) #[.slice none 0 0, .int .i64 0, .int .i64 0, .slice none 0 0] 62) := by rw [hw1]; exact (Blk.at_new (by simp) rfl).alloc _
  have HP1 : Hid (Blk w1 (W.heap.size + 1 + 1) #[.pointer none, .pointer (some ⟨W.heap.size + 1, 0, none⟩)] 22) := by rw [hw1]; exact Blk.at_new (by simp) rfl
  clear hw1
  go_loopw [4] (fun i wr => ∃ j : Nat, i = .int .i64 (j : Int) ∧ j ≤ 2 ∧ Hid (Below w1.heap.size w1 wr)) (fun i _ => 2 - (intOf i).toNat)
  case atStart => exact ⟨0, rfl, by omega, Below.refl _ _⟩
  case round =>
    obtain ⟨j, rfl, hj, HW⟩ := hrel
    by_cases hlt : j < 2
    · have HPr : Hid (Blk wr (W.heap.size + 1 + 1) #[.pointer none, .pointer (some ⟨W.heap.size + 1, 0, none⟩)] 22) := HP1.out.below HW.out HP1.out.lt
      have HZr : Hid (Blk wr (W.heap.size + 1) #[.slice none 0 0, .int .i64 0, .int .i64 0, .slice none 0 0] 62) := HZ1.out.below HW.out HZ1.out.lt
      have HAr : Hid (Blk wr W.heap.size #[.int .i64 kind, .slice a n c, .int .i64 x] 48) := HA1.out.below HW.out HA1.out.lt
      obtain ⟨p, kp, hp⟩ : ∃ p : Option Addr, wr.cell? ⟨W.heap.size + 1 + 1, j, none⟩ = some (.pointer p) ∧ NoIntake wr (.pointer p) := by
        rcases (by omega : j = 0 ∨ j = 1) with rfl | rfl
        · exact ⟨none, HPr.out.cell rfl, .inl rfl⟩
        · exact ⟨_, HPr.out.cell rfl, .inr ⟨_, rfl, HZr.out.lt, HZr.out.cell rfl⟩⟩
      have HN := Lib.hid hp
      clear hp HPr HZr
      have kx : wr.cell? ⟨W.heap.size, 2, none⟩ = some (.int .i64 x) := HAr.out.cell rfl
      have hlt' : (j : Int) < 2 := by omega
      go_wp2_with fail
      refine Calls.mono (step_none wr _ HN.out x) ?_
      rintro e w2 ⟨rfl, hb2⟩
      have HN2 := Lib.hid (HN.out.below hb2)
      have HA2 := Lib.hid (HAr.out.below hb2 HAr.out.lt)
      have HW2 : Hid (Below w1.heap.size w1 w2) := HW.out.trans (hb2.mono HW.out.size)
      clear hb2 HN HAr kx kp
      unfold zeroSpan emptyStr
      go_wp2_with fail
      refine wp_gen fun w3 hw3 => ?_
      have HB3 : Hid (Below w2.heap.size w2 w3) := by rw [hw3]; exact (Below.refl _ _).alloc (Nat.le_refl _) _
      have HZ3 : Hid (Blk w3 w2.heap.size zeroSpan 35) := by rw [hw3]; exact Blk.at_new rfl rfl
      clear hw3
      have HN3 := Lib.hid (HN2.out.below HB3.out)
      have HA3 := Lib.hid (HA2.out.below HB3.out HA2.out.lt)
      have HW3 : Hid (Below w1.heap.size w1 w3) := HW2.out.trans (HB3.out.mono HW2.out.size)
      clear HN2 HA2 HW2 HB3
      have hw0 : IntKind.i64.wrap (IntKind.i64.wrap 0) = 0 := by decide
      have hS3 : w3.drew.cell? ⟨W.heap.size, 1, none⟩ = some (.slice a n c) ∧ w3.drew.cell? ⟨W.heap.size, 2, none⟩ = some (.int .i64 x) ∧ w3.drew.cell? ⟨w2.heap.size, 0, none⟩ = some (.int .u64 0) ∧ w3.drew.cell? ⟨w2.heap.size, 1, none⟩ = some (.int .u64 0) ∧ w3.drew.cell? ⟨w2.heap.size, 2, none⟩ = some (.int .u64 0) ∧ w3.drew.cell? ⟨w2.heap.size, 3, none⟩ = some (.int .u64 0) ∧ w3.drew.cell? ⟨w2.heap.size, 4, none⟩ = some (.string ⟨#[]⟩) ∧ w3.drew.cell? ⟨w2.heap.size, 5, none⟩ = some (.string ⟨#[]⟩) ∧ w3.drew.cell? ⟨w2.heap.size, 6, none⟩ = some (.int .i64 0) ∧ w3.drew.cell? ⟨w2.heap.size, 7, none⟩ = some (.int .i64 0) ∧ w3.drew.cell? ⟨w2.heap.size, 8, none⟩ = some (.int .i64 0) ∧ w3.drew.cell? ⟨w2.heap.size, 9, none⟩ = some (.bool false) ∧ w3.drew.cell? ⟨w2.heap.size, 10, none⟩ = some (.slice none 0 0) := ⟨HA3.out.cell rfl, HA3.out.cell rfl, HZ3.out.cell rfl, HZ3.out.cell rfl, HZ3.out.cell rfl, HZ3.out.cell rfl, HZ3.out.cell rfl, HZ3.out.cell rfl, HZ3.out.cell rfl, HZ3.out.cell rfl, HZ3.out.cell rfl, HZ3.out.cell rfl, HZ3.out.cell rfl⟩
      go_region_held3 (fun w' => w'.cell? ⟨W.heap.size, 1, none⟩ = some (.slice a n c) ∧ w'.cell? ⟨W.heap.size, 2, none⟩ = some (.int .i64 x) ∧ w'.cell? ⟨w2.heap.size, 0, none⟩ = some (.int .u64 0) ∧ w'.cell? ⟨w2.heap.size, 1, none⟩ = some (.int .u64 0) ∧ w'.cell? ⟨w2.heap.size, 2, none⟩ = some (.int .u64 0) ∧ w'.cell? ⟨w2.heap.size, 3, none⟩ = some (.int .u64 0) ∧ w'.cell? ⟨w2.heap.size, 4, none⟩ = some (.string ⟨#[]⟩) ∧ w'.cell? ⟨w2.heap.size, 5, none⟩ = some (.string ⟨#[]⟩) ∧ w'.cell? ⟨w2.heap.size, 6, none⟩ = some (.int .i64 0) ∧ w'.cell? ⟨w2.heap.size, 7, none⟩ = some (.int .i64 0) ∧ w'.cell? ⟨w2.heap.size, 8, none⟩ = some (.int .i64 0) ∧ w'.cell? ⟨w2.heap.size, 9, none⟩ = some (.bool false) ∧ w'.cell? ⟨w2.heap.size, 10, none⟩ = some (.slice none 0 0)) (first | assumption | go_keep)
        (first
        | (go_at_call 26; (with_reducible refine Calls.mono (same_zero _) ?_); rintro e w4 ⟨rfl, hb4⟩; have HB4 : Hid (Below w3.heap.size w3 w4) := below_of_drew hb4; have HN4 := Lib.hid (HN3.out.below HB4.out); have HA4 := Lib.hid (HA3.out.below HB4.out HA3.out.lt); have HZ4 := Lib.hid (HZ3.out.below HB4.out HZ3.out.lt); have hS4 : w4.cell? ⟨W.heap.size, 1, none⟩ = some (.slice a n c) ∧ w4.cell? ⟨W.heap.size, 2, none⟩ = some (.int .i64 x) ∧ w4.cell? ⟨w2.heap.size, 0, none⟩ = some (.int .u64 0) ∧ w4.cell? ⟨w2.heap.size, 1, none⟩ = some (.int .u64 0) ∧ w4.cell? ⟨w2.heap.size, 2, none⟩ = some (.int .u64 0) ∧ w4.cell? ⟨w2.heap.size, 3, none⟩ = some (.int .u64 0) ∧ w4.cell? ⟨w2.heap.size, 4, none⟩ = some (.string ⟨#[]⟩) ∧ w4.cell? ⟨w2.heap.size, 5, none⟩ = some (.string ⟨#[]⟩) ∧ w4.cell? ⟨w2.heap.size, 6, none⟩ = some (.int .i64 0) ∧ w4.cell? ⟨w2.heap.size, 7, none⟩ = some (.int .i64 0) ∧ w4.cell? ⟨w2.heap.size, 8, none⟩ = some (.int .i64 0) ∧ w4.cell? ⟨w2.heap.size, 9, none⟩ = some (.bool false) ∧ w4.cell? ⟨w2.heap.size, 10, none⟩ = some (.slice none 0 0) := ⟨HA4.out.cell rfl, HA4.out.cell rfl, HZ4.out.cell rfl, HZ4.out.cell rfl, HZ4.out.cell rfl, HZ4.out.cell rfl, HZ4.out.cell rfl, HZ4.out.cell rfl, HZ4.out.cell rfl, HZ4.out.cell rfl, HZ4.out.cell rfl, HZ4.out.cell rfl, HZ4.out.cell rfl⟩; clear hb4)
        | (go_at_call 9; (with_reducible refine Calls.mono (offer_none _ _ HN4.out a n c) ?_); rintro e w5 ⟨rfl, rfl⟩)
        | (go_at_call 11; (with_reducible refine Calls.mono (runnable_none _ _ HN4.out) ?_); rintro e w5 ⟨rfl, rfl⟩)
        | (go_at_call 18; (with_reducible refine Calls.mono (waiting_none _ _ HN4.out) ?_); rintro e w5 ⟨rfl, rfl⟩)
        | (go_at_call 29; (with_reducible refine Calls.mono (held_none _ _ HN4.out x) ?_); rintro e w5 ⟨rfl, rfl⟩)
        | (go_at_call 14; (with_reducible refine Calls.mono (left_none _ _ HN4.out) ?_); rintro e w5 ⟨rfl, rfl⟩)
        | (go_at_call 15; (with_reducible refine Calls.mono (idle_none _ _ HN4.out) ?_); rintro e w5 ⟨rfl, rfl⟩))
      have HW5 := Lib.hid (HW3.out.trans (HB4.out.mono HW3.out.size))
      go_wp2_with fail
      go_roundw
      · exact ⟨j + 1, by go_num, by omega, HW5⟩
      · simp only [intOf]; omega
    · have hlt' : ¬ (j : Int) < 2 := by omega
      go_wp2_with fail
      refine Calls.mono (lives19_any wr) ?_
      rintro e w2 ⟨rfl, hb2⟩
      have HW2 : Hid (Below w1.heap.size w1 w2) := HW.out.trans (hb2.mono HW.out.size)
      clear hb2
      go_wp2_with fail
      go_ret
      exact ⟨rfl, HW1.out.trans (HW2.out.mono HW1.out.size)⟩
end Go.Proofs.Ytiofhmlmimbngaa
