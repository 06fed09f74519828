/- The contract of crc.Join. -/
import Derived.Test.YtkpbkhbgiijbiaaCrcJoin
namespace Go.Proofs.Ytkpbkhbgiijbiaa
open Go.RowKit

set_option maxRecDepth 100000 in
theorem join_no (x y : BitVec 32) (n : Int) (w : World) (h : n < 0 ∨ 1099511627776 < n) :
    Calls Try.prog 10 #[.int .u32 (x.toNat : Int), .int .u32 (y.toNat : Int), .int .i64 n] w fun e w' => e = .returned (.tuple #[.int .u32 0, .int .i64 2]) ∧ w = w' := by
  rcases h with h | h
  · go_enter Try.func10, Try.ntmps10
    go_wp2
    go_ret2
    exact ⟨rfl, rfl⟩
  · have h' : ¬ n < 0 := by omega
    go_enter Try.func10, Try.ntmps10
    go_wp2
    go_ret2
    exact ⟨rfl, rfl⟩

theorem iter_twice (m : Nat) : (fun x => Crc.iter m (Crc.iter m x)) = Crc.iter (m + m) := by
  funext x; rw [Crc.iter_add]

theorem i64_and1 (q : Nat) : bits .and .i64 (q : Int) 1 = ((q % 2 : Nat) : Int) := by
  have h1 : (BitVec.ofInt 64 1).toNat = 2 ^ 1 - 1 := by decide
  have key : (BitVec.ofInt 64 (q : Int) &&& BitVec.ofInt 64 1).toNat = ((q : Int) % ((2 ^ 64 : Nat) : Int)).toNat % 2 ^ 1 := by
    rw [BitVec.toNat_and, BitVec.toNat_ofInt, h1, Nat.and_two_pow_sub_one_eq_mod]
  show IntKind.i64.wrap ((BitVec.ofInt 64 (q : Int) &&& BitVec.ofInt 64 1).toNat : Nat) = ((q % 2 : Nat) : Int)
  rw [key, IntKind.wrap_i64]
  omega

theorem shl_form (k : Nat) (h : k < 31) : ((2 : Int) ^ k) % 4294967296 = ((Crc.step (1#32 <<< (k + 1))).toNat : Int) := by
  rw [Crc.step_bit k h, BitVec.toNat_shiftLeft, Nat.shiftLeft_eq]
  simp

set_option maxRecDepth 100000 in
theorem join_yes (x y : BitVec 32) (n : Nat) (w : World) (h : n ≤ 1099511627776) :
    Calls Try.prog 10 #[.int .u32 (x.toNat : Int), .int .u32 (y.toNat : Int), .int .i64 (n : Int)] w fun e w' => e = .returned (.tuple #[.int .u32 ((Crc.join x y n).toNat : Int), .int .i64 0]) ∧ Below w.heap.size w w' := by
  have d1 : decide ((n : Int) < 0) = false := by simp
  have d2 : decide ((1099511627776 : Int) < (n : Int)) = false := by simp; omega
  go_enter Try.func10, Try.ntmps10
  go_wp2_with fail
  clear d1 d2
  refine wp_gen fun W hW => ?_
  have HB0 : Hid (Blk W w.heap.size (partA (fun i => Crc.step (1#32 <<< i)) 1) mT) := by
    rw [hW]; exact Blk.at_new rfl (by rw [← partA_set, partA_zero, Crc.step_one]; rfl)
  have HW : Hid (Below w.heap.size w W) := by
    rw [hW]; exact (Below.refl _ _).alloc (Nat.le_refl _) _
  clear hW
  generalize hB : w.heap.size = B at *
  have HBB := Lib.hid hB; clear hB
  go_loopw [9] (fun i wr => ∃ k : Nat, 1 ≤ k ∧ k ≤ 32 ∧ i = .int .i64 k ∧ Hid (Blk wr B (partA (fun i => Crc.step (1#32 <<< i)) k) mT) ∧ Hid (Below B w wr)) (fun i _ => 32 - (intOf i).toNat)
  case atStart => exact ⟨1, by omega, by omega, rfl, HB0, HW⟩
  case round =>
    clear HB0 HW
    obtain ⟨k, hk1, hk, rfl, HB0, HW⟩ := hrel
    by_cases hlt : k < 32
    · have hc2 : wr.cell? ⟨B, k, none⟩ = some (.int .u32 0) := HB0.out.cell (by rw [partA_get _ _ _ hlt]; simp)
      have hf2 := HB0.out.free k
      go_wp2_with fail
      go_roundw
      case rel =>
        refine ⟨k + 1, by omega, by omega, by go_num, ?_, HW.out.setCell (Nat.le_refl _) _⟩
        rw [← partA_set]
        have e := shl_form (k - 1) (by omega)
        rw [show k - 1 + 1 = k by omega] at e
        rw [e]
        exact HB0.out.set _ _
      case measure => simp [intOf]; omega
    · obtain rfl : k = 32 := by omega
      rw [show ((32 : Nat) : Int) = (32 : Int) from rfl]
      have HX := Lib.hid (partA_full Crc.step)
      rw [HX.out] at HB0
      have HB1 : Hid (Blk wr B (matA (Crc.iter (2 ^ 0))) mT) := HB0
      clear hlt hk hk1 HX HB0
      go_wp2_with fail
      go_loopw [26] (fun i wr => ∃ k : Nat, k ≤ 3 ∧ i = .int .i64 k ∧ Hid (Blk wr B (matA (Crc.iter (2 ^ k))) mT) ∧ Hid (Below B w wr)) (fun i _ => 3 - (intOf i).toNat)
      case atStart => exact ⟨0, by omega, rfl, HB1, HW⟩
      case round =>
        clear HB1 HW
        obtain ⟨k, hk, rfl, HB1, HW⟩ := hrel
        by_cases hlt : k < 3
        · go_wp2_with (refine wpList_load_row rfl _ _ rfl _ rfl _ _ _ _ HB1.out Try.underlying55 rfl (by rw [matA_size]; kernel_rfl) ?_)
          refine Calls.mono (squared_any _ (Crc.lin_iter _) _) ?_
          rintro e w1 ⟨rfl, hb⟩
          rw [iter_twice]
          have HB3 : Hid (Blk w1 B (matA (Crc.iter (2 ^ k))) mT) := HB1.out.below hb HB1.out.lt
          have HW3 : Hid (Below B w w1) := HW.out.trans (hb.mono (Nat.le_of_lt HB1.out.lt))
          clear hb HB1 HW
          go_wp2_with (refine wpList_store_agg rfl _ _ _ rfl B 0 rfl _ rfl _ _ HB3.out (by rw [matA_size]; kernel_rfl) (by rw [matA_size, matA_size]; simp) (matA_one _) ?_)
          rw [over_all _ _ (by rw [matA_size, matA_size])]
          go_wp2_with fail
          go_roundw
          case rel => exact ⟨k + 1, by omega, by go_num, by rw [Nat.pow_succ, Nat.mul_two]; exact HB3.out.row _, below_setRow HW3.out (Nat.le_refl _) _⟩
          case measure => simp [intOf]; omega
        · obtain rfl : k = 3 := by omega
          rw [show ((3 : Nat) : Int) = (3 : Int) from rfl]
          clear hlt hk
          have HB2 : Hid (Blk wr B (matA (Crc.iter (8 * 2 ^ 0))) mT) := HB1
          clear HB1
          go_wp2_with fail
          go_loopw [0, 2] (fun a i wr => ∃ k : Nat, k ≤ 41 ∧ i = .int .i64 (n / 2 ^ k : Nat) ∧ a = .int .u32 ((Crc.iter (8 * (n % 2 ^ k)) x).toNat : Int) ∧ Hid (Blk wr B (matA (Crc.iter (8 * 2 ^ k))) mT) ∧ Hid (Below B w wr)) (fun _ i _ => (intOf i).toNat)
          case atStart => exact ⟨0, by omega, by simp, by simp [Nat.mod_one, Crc.iter], HB2, HW⟩
          case round =>
            clear HB2 HW
            obtain ⟨k, hk, rfl, rfl, HB2, HW⟩ := hrel
            by_cases hz : n / 2 ^ k = 0
            · have HN : Hid (n % 2 ^ k = n) := by
                rw [Nat.div_eq_zero_iff] at hz
                rcases hz with hz | hz
                · have := Nat.two_pow_pos k; omega
                · exact Nat.mod_eq_of_lt hz
              rw [hz, HN.out]
              go_wp2_with fail
              go_ret2
              exact ⟨ret2_of (int_eq (xor_bv _ _)) rfl, by rw [HBB.out]; exact HW.out⟩
            · have hk41 : k < 41 := by
                rcases Nat.lt_or_ge k 41 with h1 | h1
                · exact h1
                · exfalso; apply hz
                  rw [Nat.div_eq_zero_iff]; right
                  exact Nat.lt_of_lt_of_le (Nat.lt_of_le_of_lt h (by decide)) (Nat.pow_le_pow_right (by omega) h1)
              have HH : Hid (n / 2 ^ (k + 1) = n / 2 ^ k / 2) := by rw [Nat.pow_succ, ← Nat.div_div_eq_div_mul]; exact rfl
              have HM : Hid (n % 2 ^ (k + 1) = n % 2 ^ k + 2 ^ k * (n / 2 ^ k % 2)) := Nat.mod_pow_succ
              have hq : n / 2 ^ k ≤ 1099511627776 := Nat.le_trans (Nat.div_le_self _ _) h
              generalize n / 2 ^ k = q at *
              have hq0 : 0 < q := Nat.pos_of_ne_zero hz
              clear hz
              have ha : bits .and .i64 (q : Int) 1 = ((q % 2 : Nat) : Int) := i64_and1 q
              rcases Nat.mod_two_eq_zero_or_one q with h01 | h01
              · rw [h01] at ha
                have HQ := Lib.hid h01; clear h01
                go_wp2_with (refine wpList_load_row rfl _ _ rfl _ rfl _ _ _ _ HB2.out Try.underlying55 rfl (by rw [matA_size]; kernel_rfl) ?_)
                refine Calls.mono (squared_any _ (Crc.lin_iter _) _) ?_
                rintro e w1 ⟨rfl, hb⟩
                rw [iter_twice]
                have HB3 : Hid (Blk w1 B (matA (Crc.iter (8 * 2 ^ k))) mT) := HB2.out.below hb HB2.out.lt
                have HW3 : Hid (Below B w w1) := HW.out.trans (hb.mono (Nat.le_of_lt HB2.out.lt))
                clear hb HB2 HW ha
                go_wp2_with (refine wpList_store_agg rfl _ _ _ rfl B 0 rfl _ rfl _ _ HB3.out (by rw [matA_size]; kernel_rfl) (by rw [matA_size, matA_size]; simp) (matA_one _) ?_)
                rw [over_all _ _ (by rw [matA_size, matA_size])]
                go_wp2_with fail
                go_roundw
                case rel =>
                  refine ⟨k + 1, by omega, by rw [HH.out]; go_num, ?_, ?_, below_setRow HW3.out (Nat.le_refl _) _⟩
                  · rw [HM.out, HQ.out]; simp
                  · rw [Nat.pow_succ, Nat.mul_two, Nat.mul_add]; exact HB3.out.row _
                case measure => simp [intOf]; omega
              · rw [h01] at ha
                have HQ := Lib.hid h01; clear h01
                go_wp2_with fail
                refine Calls.mono (times_any _ (Crc.lin_iter _) B _ _ wr HB2.out) ?_
                rintro e w1 ⟨rfl, rfl⟩
                go_wp2_with (refine wpList_load_row rfl _ _ rfl _ rfl _ _ _ _ HB2.out Try.underlying55 rfl (by rw [matA_size]; kernel_rfl) ?_)
                refine Calls.mono (squared_any _ (Crc.lin_iter _) _) ?_
                rintro e w1 ⟨rfl, hb⟩
                rw [iter_twice]
                have HB3 : Hid (Blk w1 B (matA (Crc.iter (8 * 2 ^ k))) mT) := HB2.out.below hb HB2.out.lt
                have HW3 : Hid (Below B w w1) := HW.out.trans (hb.mono (Nat.le_of_lt HB2.out.lt))
                clear hb HB2 HW ha
                go_wp2_with (refine wpList_store_agg rfl _ _ _ rfl B 0 rfl _ rfl _ _ HB3.out (by rw [matA_size]; kernel_rfl) (by rw [matA_size, matA_size]; simp) (matA_one _) ?_)
                rw [over_all _ _ (by rw [matA_size, matA_size])]
                go_wp2_with fail
                go_roundw
                case rel =>
                  refine ⟨k + 1, by omega, by rw [HH.out]; go_num, ?_, ?_, below_setRow HW3.out (Nat.le_refl _) _⟩
                  · rw [HM.out, HQ.out, Nat.mul_one, Nat.mul_add, Crc.iter_add]
                  · rw [Nat.pow_succ, Nat.mul_two, Nat.mul_add]; exact HB3.out.row _
                case measure => simp [intOf]; omega
end Go.Proofs.Ytkpbkhbgiijbiaa
