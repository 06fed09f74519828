/- Contracts of the small functions of package crc. -/
import Derived.Test.YtkpbkhbgiijbiaaRows
import Derived.Test.YtkpbkhbgiijbiaaCrcMath
import Derived.Test.YtkpbkhbgiijbiaaBytes
namespace Go.Proofs.Ytkpbkhbgiijbiaa
open Go.RowKit

theorem zero57 (w : World) : (zeroValue 57).run Try.prog w = .ok (.agg (Array.replicate 256 (.int .u32 0))) w := by kernel_rfl

def tabCells (k : Nat) : Array Value := Array.ofFn (n := 256) fun i => if i.val < k then .int .u32 ((Crc.tab i.val).toNat : Int) else .int .u32 0

theorem tabCells_zero : tabCells 0 = Array.replicate 256 (.int .u32 0) := by
  apply Array.ext
  · simp [tabCells]
  · intro i h1 h2; simp [tabCells]

theorem tabCells_get (k i : Nat) (h : i < 256) : (tabCells k)[i]? = some (if i < k then .int .u32 ((Crc.tab i).toNat : Int) else .int .u32 0) := by
  simp [tabCells, h]

theorem tabCells_size (k : Nat) : (tabCells k).size = 256 := by simp [tabCells]
theorem tabCells_none (k i : Nat) (h : ¬ i < 256) : (tabCells k)[i]? = none := by simp [tabCells]; omega

theorem tabCells_set (k : Nat) : (tabCells k).setIfInBounds k (.int .u32 ((Crc.tab k).toNat : Int)) = tabCells (k + 1) := by
  apply Array.ext_getElem?
  intro i
  rw [Array.getElem?_setIfInBounds, tabCells_size]
  by_cases hi : i < 256
  · rw [tabCells_get _ _ hi, tabCells_get _ _ hi]
    by_cases h : k = i
    · subst h; simp [hi]
    · rw [if_neg h]
      by_cases h3 : i < k
      · rw [if_pos h3, if_pos (by omega)]
      · rw [if_neg h3, if_neg (by omega)]
  · rw [tabCells_none _ _ hi, tabCells_none _ _ hi]
    by_cases h : k = i
    · rw [if_pos h, if_neg (by omega)]
    · rw [if_neg h]

theorem xor_bv (x y : BitVec 32) : bits .xor .u32 (x.toNat : Int) (y.toNat : Int) = ((x ^^^ y).toNat : Int) := by
  rw [u32_xor_nat _ _ x.isLt y.isLt, BitVec.toNat_xor]

theorem shr1_bv (x : BitVec 32) : (x.toNat : Int) / (2 : Int) = ((x >>> 1).toNat : Int) := by
  rw [BitVec.toNat_ushiftRight, Nat.shiftRight_eq_div_pow]; omega

theorem shr8_bv (x : BitVec 32) : (x.toNat : Int) / (256 : Int) = ((x >>> 8).toNat : Int) := by
  rw [BitVec.toNat_ushiftRight, Nat.shiftRight_eq_div_pow]; omega

theorem step_form (x : BitVec 32) : bits .xor .u32 ((x.toNat : Int) / 2) (2197175160 * bits .and .u32 (x.toNat : Int) 1 % 4294967296) = ((Crc.step x).toNat : Int) := by
  have h1 : bits .and .u32 (x.toNat : Int) 1 = ((x.toNat % 2 : Nat) : Int) := by
    rw [show (1 : Int) = ((1 : Nat) : Int) by rfl, u32_and_nat _ _ x.isLt (by omega), nat_mask1]
  have h2 : (2197175160 * bits .and .u32 (x.toNat : Int) 1 % 4294967296) = (((if x.getLsbD 0 then 0x82F63B78#32 else 0#32) : BitVec 32).toNat : Int) := by
    rw [h1, BitVec.getLsbD, Nat.testBit_zero]
    rcases Nat.mod_two_eq_zero_or_one x.toNat with h | h <;> rw [h] <;> simp
  rw [h2, shr1_bv, xor_bv]; rfl

theorem byte_form (x : BitVec 32) (b : UInt8) : bits .xor .u8 ((x.toNat : Int) % 256) (b.toNat : Int) = (((x.toNat % 256) ^^^ b.toNat : Nat) : Int) := by
  rw [show (x.toNat : Int) % 256 = ((x.toNat % 256 : Nat) : Int) by rfl, u8_xor_nat _ _ (by omega) b.toNat_lt]

theorem not_form (x : BitVec 32) : bits .xor .u32 IntKind.u32.max (x.toNat : Int) = ((~~~ x).toNat : Int) := by
  rw [show IntKind.u32.max = (((BitVec.allOnes 32).toNat : Nat) : Int) by decide, xor_bv, BitVec.allOnes_xor]

theorem xor8_lt (a b : Nat) (ha : a < 256) (hb : b < 256) : a ^^^ b < 256 := Nat.xor_lt_two_pow (n := 8) ha hb

set_option maxRecDepth 100000 in
theorem upd_any (F : Nat → Prop) (s : BitVec 32) (v : Value) (bs : List UInt8) (w : World) (hv : Bytes F w v bs) :
    Calls Try.prog 15 #[.int .u32 (s.toNat : Int), v] w fun e w' => e = .returned (.int .u32 ((Crc.update s bs).toNat : Int)) ∧ Below w.heap.size w w' := by
  have hl := hv.len
  obtain ⟨a, cap, rfl, hc⟩ := hv.cells
  clear hv
  have h57 := fun w => zero57 w
  have HC := Lib.hid hc; clear hc
  unfold maxLen at hl
  go_enter Try.func15, Try.ntmps15
  go_wp2
  have HB := Lib.hid (show Blk (w.alloc (Obj.cells (Array.replicate 256 (.int .u32 0)) 57)) w.heap.size (tabCells 0) 57 by rw [tabCells_zero]; exact Blk.alloc_new _ _ _)
  have HW := Lib.hid ((Below.refl w.heap.size w).alloc (Nat.le_refl _) (Obj.cells (Array.replicate 256 (.int .u32 0)) 57))
  generalize (w.alloc (Obj.cells (Array.replicate 256 (.int .u32 0)) 57)) = w1 at *
  generalize hB : w.heap.size = B at *
  have HBB := Lib.hid hB; clear hB
  go_loopw [6, 7, 10, 15] (fun _ _ i _ wr => ∃ k : Nat, k ≤ 256 ∧ i = .int .i64 k ∧ Hid (Blk wr B (tabCells k) 57) ∧ Hid (Below B w wr)) (fun _ _ i _ _ => 256 - (intOf i).toNat)
  case atStart => exact ⟨0, by omega, rfl, HB, HW⟩
  case round =>
    clear HB HW
    obtain ⟨k, hk, rfl, HB, HW⟩ := hrel
    by_cases hlt : k < 256
    · go_wp2
      go_loop [7, 15] (fun x i => ∃ j : Nat, j ≤ 8 ∧ i = .int .i64 j ∧ x = .int .u32 ((Crc.iter j (BitVec.ofNat 32 k)).toNat : Int)) (fun _ i => 8 - (intOf i).toNat)
      case atStart => exact ⟨0, by omega, rfl, by simp [Crc.iter]; omega⟩
      case round =>
        obtain ⟨j, hj, rfl, rfl⟩ := hrel
        by_cases hlt2 : j < 8
        · generalize hx : Crc.iter j (BitVec.ofNat 32 k) = x
          have HX := Lib.hid hx; clear hx
          go_wp2
          go_round
          case rel => exact ⟨j + 1, by omega, by go_num, by rw [step_form, Crc.iter_succ, HX.out]⟩
          case measure => simp [intOf]; omega
        · obtain rfl : j = 8 := by omega
          have hce : wr.cell? ⟨B, k, none⟩ = some (.int .u32 0) := HB.out.cell (by rw [tabCells_get _ _ hlt]; simp)
          have hfr : wr.frozen? ⟨B, k, none⟩ = false := HB.out.free _
          go_wp2
          go_roundw
          case rel => exact ⟨k + 1, by omega, by go_num, by rw [← tabCells_set]; exact HB.out.set _ _, HW.out.setCell (Nat.le_refl _) _⟩
          case measure => simp [intOf]; omega
    · obtain rfl : k = 256 := by omega
      clear hlt hk
      go_wp2
      go_loop [0, 32] (fun x i => ∃ j : Nat, j ≤ bs.length ∧ i = .int .i64 j ∧ x = .int .u32 ((Crc.upd (~~~ s) (bs.take j)).toNat : Int)) (fun _ i => bs.length - (intOf i).toNat)
      case atStart => exact ⟨0, by omega, rfl, by rw [not_form]; simp [Crc.upd]⟩
      case round =>
        obtain ⟨j, hj, rfl, rfl⟩ := hrel
        by_cases hlt2 : j < bs.length
        · obtain ⟨ad, rfl, _, hcell⟩ := HC.out j hlt2
          have hcell' : wr.cell? (ad.add j) = some (.int .u8 ((bs.getD j 0).toNat : Int)) := by
            have hlt3 := World.block_lt_of_cell? _ _ hcell
            rw [HBB.out] at hlt3
            rw [HW.out.cell hlt3, hcell]
          have hts : bs.take (j + 1) = bs.take j ++ [bs.getD j 0] := by rw [List.take_succ_eq_append_getElem hlt2]; simp [List.getD, hlt2]
          have HS := Lib.hid (show Crc.upd (~~~ s) (bs.take (j + 1)) = Crc.byte8 (Crc.upd (~~~ s) (bs.take j)) (bs.getD j 0) by rw [hts, Crc.upd_snoc])
          clear hcell hts
          generalize Crc.upd (~~~ s) (bs.take j) = x at *
          generalize bs.getD j 0 = b at *
          have hbf := byte_form x b
          have hce : wr.cell? ⟨B, (x.toNat % 256) ^^^ b.toNat, none⟩ = some (.int .u32 ((Crc.tab ((x.toNat % 256) ^^^ b.toNat)).toNat : Int)) := by
            have hlt4 := xor8_lt (x.toNat % 256) b.toNat (by omega) b.toNat_lt
            exact HB.out.cell (by rw [tabCells_get _ _ hlt4, if_pos hlt4])
          have hlt4 : (x.toNat % 256) ^^^ b.toNat < 256 := xor8_lt (x.toNat % 256) b.toNat (by omega) b.toNat_lt
          generalize hq : (x.toNat % 256) ^^^ b.toNat = q at *
          have HQ := Lib.hid hq; clear hq
          go_wp2
          go_round
          case rel => exact ⟨j + 1, by omega, by go_num, by rw [HS.out, Crc.byte8_tab, HQ.out, shr8_bv, xor_bv]⟩
          case measure => simp [intOf]; omega
        · obtain rfl : j = bs.length := by omega
          go_wp2
          go_ret
          exact ⟨ret_int (not_form _), HBB.out ▸ HW.out⟩
end Go.Proofs.Ytkpbkhbgiijbiaa
