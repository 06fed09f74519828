/- Contracts of crc.Sum, Mask, Unmask, Join and what they call. -/
import Derived.Test.YtkpbkhbgiijbiaaCrcUpdate
namespace Go.Proofs.Ytkpbkhbgiijbiaa
open Go.RowKit

theorem sum_any (F : Nat → Prop) (v : Value) (bs : List UInt8) (w : World) (hv : Bytes F w v bs) :
    Calls Try.prog 13 #[v] w fun e w' => e = .returned (.int .u32 ((Crc.update 0#32 bs).toNat : Int)) ∧ Below w.heap.size w w' := by
  have HU := Lib.hid (upd_any F 0#32 v bs w hv); clear hv
  go_enter Try.func13, Try.ntmps13
  go_wp2_with fail
  refine Calls.mono HU.out ?_
  rintro e w' ⟨rfl, hb⟩
  have HB := Lib.hid hb; clear hb
  go_wp2_with fail
  go_ret
  exact ⟨rfl, HB.out⟩

theorem or_bv (x y : BitVec 32) : bits .or .u32 (x.toNat : Int) (y.toNat : Int) = ((x ||| y).toNat : Int) := by
  rw [u32_or_nat _ _ x.isLt y.isLt, BitVec.toNat_or]

theorem rotL_form (x : BitVec 32) : bits .or .u32 ((x.toNat : Int) * 32768 % 4294967296) ((x.toNat : Int) / 131072) = ((rotL x).toNat : Int) := by
  have h1 : (x.toNat : Int) * (32768 : Int) % (4294967296 : Int) = ((x <<< 15).toNat : Int) := by
    rw [BitVec.toNat_shiftLeft, Nat.shiftLeft_eq]; omega
  have h2 : (x.toNat : Int) / (131072 : Int) = ((x >>> 17).toNat : Int) := by
    rw [BitVec.toNat_ushiftRight, Nat.shiftRight_eq_div_pow]; omega
  rw [h1, h2, or_bv]; rfl

theorem rotR_form (x : BitVec 32) : bits .or .u32 ((x.toNat : Int) * 131072 % 4294967296) ((x.toNat : Int) / 32768) = ((rotR x).toNat : Int) := by
  have h1 : (x.toNat : Int) * (131072 : Int) % (4294967296 : Int) = ((x <<< 17).toNat : Int) := by
    rw [BitVec.toNat_shiftLeft, Nat.shiftLeft_eq]; omega
  have h2 : (x.toNat : Int) / (32768 : Int) = ((x >>> 15).toNat : Int) := by
    rw [BitVec.toNat_ushiftRight, Nat.shiftRight_eq_div_pow]; omega
  rw [h1, h2, or_bv]; rfl

theorem and15 : bits .and .u64 15 31 = 15 := by decide
theorem and17 : bits .and .u64 (IntKind.u64.wrap (-15)) 31 = 17 := by decide

theorem rot_any (x : BitVec 32) (k : Int) (y : BitVec 32) (w : World) (hk : (k = 15 ∧ y = rotL x) ∨ (k = -15 ∧ y = rotR x)) :
    Calls Try.prog 33 #[.int .u32 (x.toNat : Int), .int .i64 k] w fun e w' => e = .returned (.int .u32 (y.toNat : Int)) ∧ w = w' := by
  rcases hk with ⟨rfl, hy⟩ | ⟨rfl, hy⟩
  · have HY := Lib.hid hy; clear hy
    have h15 := and15
    go_enter Try.func33, Try.ntmps33
    go_wp2
    go_ret
    refine ⟨ret_int ?_, rfl⟩
    rw [HY.out]; exact rotL_form x
  · have HY := Lib.hid hy; clear hy
    have h17 := and17
    go_enter Try.func33, Try.ntmps33
    go_wp2
    go_ret
    refine ⟨ret_int ?_, rfl⟩
    rw [HY.out]; exact rotR_form x

theorem mask_any (x : BitVec 32) (w : World) :
    Calls Try.prog 17 #[.int .u32 (x.toNat : Int)] w fun e w' => e = .returned (.int .u32 ((maskW x).toNat : Int)) ∧ w = w' := by
  have HR := Lib.hid (rot_any x (-15) (rotR x) w (.inr ⟨rfl, rfl⟩))
  go_enter Try.func17, Try.ntmps17
  go_wp2_with fail
  refine Calls.mono HR.out ?_
  rintro e w' ⟨rfl, rfl⟩
  go_wp2_with fail
  go_ret
  refine ⟨ret_int ?_, rfl⟩
  unfold maskW
  rw [BitVec.toNat_add]
  simp only [BitVec.toNat_ofNat]
  omega

theorem unmask_any (x : BitVec 32) (w : World) :
    Calls Try.prog 16 #[.int .u32 (x.toNat : Int)] w fun e w' => e = .returned (.int .u32 ((unmaskW x).toNat : Int)) ∧ w = w' := by
  have he : ((x.toNat : Int) - (2726488792 : Int)) % (4294967296 : Int) = ((x - 0xA282EAD8#32).toNat : Int) := by
    rw [BitVec.toNat_sub]; simp only [BitVec.toNat_ofNat]; omega
  have HR := Lib.hid (rot_any (x - 0xA282EAD8#32) 15 (rotL (x - 0xA282EAD8#32)) w (.inl ⟨rfl, rfl⟩))
  have HE := Lib.hid he; clear he
  go_enter Try.func16, Try.ntmps16
  go_wp2_with fail
  rw [HE.out]
  refine Calls.mono HR.out ?_
  rintro e w' ⟨rfl, rfl⟩
  go_wp2_with fail
  go_ret
  exact ⟨rfl, rfl⟩

def matA (f : BitVec 32 → BitVec 32) : Array Value := Array.ofFn (n := 32) fun i => .int .u32 ((f (1#32 <<< i.val)).toNat : Int)

theorem matA_get (f : BitVec 32 → BitVec 32) (i : Nat) (h : i < 32) : (matA f)[i]? = some (.int .u32 ((f (1#32 <<< i)).toNat : Int)) := by
  simp [matA, h]

theorem times_any (f : BitVec 32 → BitVec 32) (hf : Crc.Lin f) (b : Nat) (T : TypeId) (x : BitVec 32) (w : World) (hb : Blk w b (matA f) T) :
    Calls Try.prog 32 #[.pointer (some ⟨b, 0, none⟩), .int .u32 (x.toNat : Int)] w fun e w' => e = .returned (.int .u32 ((f x).toNat : Int)) ∧ w = w' := by
  have HB := Lib.hid hb; clear hb
  go_enter Try.func32, Try.ntmps32
  go_wp2
  go_loop [1, 5, 6] (fun c o i => ∃ k : Nat, k ≤ 32 ∧ i = .int .i64 k ∧ c = .int .u32 ((x.toNat / 2 ^ k : Nat) : Int) ∧ o = .int .u32 ((f (Crc.low k x)).toNat : Int)) (fun _ _ i => 33 - (intOf i).toNat)
  case atStart => exact ⟨0, by omega, rfl, by simp, by rw [Crc.low_zero, hf.zero]; rfl⟩
  case round =>
    obtain ⟨k, hk, rfl, rfl, rfl⟩ := hrel
    have HH : Hid (x.toNat / 2 ^ (k + 1) = x.toNat / 2 ^ k / 2) := by rw [Nat.pow_succ, ← Nat.div_div_eq_div_mul]; exact rfl
    have HL : Hid (f (Crc.low (k + 1) x) = if x.getLsbD k then f (Crc.low k x) ^^^ f (1#32 <<< k) else f (Crc.low k x)) := Crc.lin_low f hf k x
    have HA : Hid (x.toNat / 2 ^ k = 0 → Crc.low k x = x) := Crc.low_all k x
    have hbit : x.getLsbD k = decide (x.toNat / 2 ^ k % 2 = 1) := by rw [← BitVec.testBit_toNat, Nat.testBit_eq_decide_div_mod_eq]
    have hq32 : x.toNat / 2 ^ k < 4294967296 := Nat.lt_of_le_of_lt (Nat.div_le_self _ _) x.isLt
    have hkq : x.toNat / 2 ^ k ≠ 0 → k < 32 := by
      intro h
      rcases Nat.lt_or_ge k 32 with h1 | h1
      · exact h1
      · exfalso; apply h
        rw [Nat.div_eq_zero_iff]; right
        exact Nat.lt_of_lt_of_le x.isLt (Nat.pow_le_pow_right (by omega) h1)
    generalize x.toNat / 2 ^ k = q at *
    have ha : bits .and .u32 (q : Int) 1 = ((q % 2 : Nat) : Int) := by
      rw [show (1 : Int) = ((1 : Nat) : Int) by rfl, u32_and_nat _ _ hq32 (by omega), nat_mask1]
    by_cases hz : q = 0
    · have HX := Lib.hid (HA.out hz)
      subst hz
      clear ha hbit hkq
      go_wp2
      go_ret
      exact ⟨by show Ending.returned (.int .u32 ((f (Crc.low k x)).toNat : Int)) = _; rw [HX.out], rfl⟩
    · have hlt : k < 32 := hkq hz
      have hz' : ((q : Int) != 0) = true := by simp; omega
      have HB2 := Lib.hid hbit
      clear hbit hkq
      have HZ := Lib.hid hz
      clear hz
      rcases Nat.mod_two_eq_zero_or_one q with h01 | h01
      · rw [h01] at ha
        have HQ := Lib.hid h01; clear h01
        go_wp2
        go_round
        case rel => exact ⟨k + 1, by omega, by go_num, by rw [HH.out]; go_num, by rw [HL.out, HB2.out, HQ.out]; rfl⟩
        case measure => simp [intOf]; omega
      · rw [h01] at ha
        have HQ := Lib.hid h01; clear h01
        have hcell := HB.out.cell (matA_get f k hlt)
        go_wp2
        go_round
        case rel => exact ⟨k + 1, by omega, by go_num, by rw [HH.out]; go_num, by rw [HL.out, HB2.out, HQ.out]; simp only [decide_true, if_true]; rw [xor_bv]⟩
        case measure => simp [intOf]; omega

def partA (g : Nat → BitVec 32) (k : Nat) : Array Value := Array.ofFn (n := 32) fun i => if i.val < k then .int .u32 ((g i.val).toNat : Int) else .int .u32 0

theorem partA_get (g : Nat → BitVec 32) (k i : Nat) (h : i < 32) : (partA g k)[i]? = some (if i < k then .int .u32 ((g i).toNat : Int) else .int .u32 0) := by
  simp [partA, h]
theorem partA_size (g : Nat → BitVec 32) (k : Nat) : (partA g k).size = 32 := by simp [partA]
theorem partA_none (g : Nat → BitVec 32) (k i : Nat) (h : ¬ i < 32) : (partA g k)[i]? = none := by simp [partA]; omega
theorem partA_set (g : Nat → BitVec 32) (k : Nat) : (partA g k).setIfInBounds k (.int .u32 ((g k).toNat : Int)) = partA g (k + 1) := by
  apply Array.ext_getElem?
  intro i
  rw [Array.getElem?_setIfInBounds, partA_size]
  by_cases hi : i < 32
  · rw [partA_get _ _ _ hi, partA_get _ _ _ hi]
    by_cases h : k = i
    · subst h; simp [hi]
    · rw [if_neg h]
      by_cases h3 : i < k
      · rw [if_pos h3, if_pos (by omega)]
      · rw [if_neg h3, if_neg (by omega)]
  · rw [partA_none _ _ _ hi, partA_none _ _ _ hi]
    by_cases h : k = i
    · rw [if_pos h, if_neg (by omega)]
    · rw [if_neg h]
theorem partA_zero (g : Nat → BitVec 32) : partA g 0 = Array.replicate 32 (.int .u32 0) := by
  apply Array.ext
  · simp [partA]
  · intro i h1 h2; simp [partA]
theorem partA_full (f : BitVec 32 → BitVec 32) : partA (fun i => f (1#32 <<< i)) 32 = matA f := by
  apply Array.ext
  · simp [partA, matA]
  · intro i h1 h2
    have h3 : i < 32 := by simpa [partA] using h1
    simp [partA, matA]
theorem matA_size (f : BitVec 32 → BitVec 32) : (matA f).size = 32 := by simp [matA]
theorem matA_one (f : BitVec 32 → BitVec 32) : ∀ v ∈ (matA f).toList, v.oneCell' = true := by
  intro v hv; simp only [matA, Array.mem_toList_iff, Array.mem_ofFn] at hv; obtain ⟨i, rfl⟩ := hv; rfl

abbrev mT : Nat := 55

set_option maxRecDepth 100000 in
theorem squared_any (f : BitVec 32 → BitVec 32) (hf : Crc.Lin f) (w : World) :
    Calls Try.prog 31 #[.agg (matA f)] w fun e w' => e = .returned (.agg (matA (fun x => f (f x)))) ∧ Below w.heap.size w w' := by
  have HF := Lib.hid hf; clear hf
  have HM := Lib.hid (partA_zero (fun i => f (f (1#32 <<< i))))
  go_enter Try.func31, Try.ntmps31
  go_wp2_with fail
  refine wp_gen fun W hW => ?_
  have HB0 : Hid (Blk W w.heap.size (matA f) 55) := by
    rw [hW]; exact ((Blk.alloc_new w _ _).alloc _).alloc _
  have HB1 : Hid (Blk W (w.heap.size + 1) (Array.replicate 32 (.int .u32 0)) 55) := by
    rw [hW]; exact (Blk.at_new (by simp) rfl).alloc _
  have HB2 : Hid (Blk W (w.heap.size + 1 + 1) (partA (fun i => f (f (1#32 <<< i))) 0) 55) := by
    rw [hW, HM.out]; exact Blk.at_new (by simp) rfl
  have HW : Hid (Below w.heap.size w W) := by
    rw [hW]; exact (((Below.refl _ _).alloc (Nat.le_refl _) _).alloc (by simp) _).alloc (by simp; omega) _
  clear hW HM
  generalize hB : w.heap.size = B at *
  have HBB := Lib.hid hB; clear hB
  go_loopw [5] (fun i wr => ∃ k : Nat, k ≤ 32 ∧ i = .int .i64 k ∧ Hid (Blk wr B (matA f) 55) ∧ Hid (Blk wr (B + 1) (Array.replicate 32 (.int .u32 0)) 55) ∧ Hid (Blk wr (B + 1 + 1) (partA (fun i => f (f (1#32 <<< i))) k) 55) ∧ Hid (Below B w wr)) (fun i _ => 32 - (intOf i).toNat)
  case atStart => exact ⟨0, by omega, rfl, HB0, HB1, HB2, HW⟩
  case round =>
    clear HB0 HB1 HB2 HW
    obtain ⟨k, hk, rfl, HB0, HB1, HB2, HW⟩ := hrel
    by_cases hlt : k < 32
    · have hcell := HB0.out.cell (matA_get f k hlt)
      have hc2 : wr.cell? ⟨B + 1 + 1, k, none⟩ = some (.int .u32 0) := HB2.out.cell (by rw [partA_get _ _ _ hlt]; simp)
      have hf2 := HB2.out.free k
      go_wp2_with fail
      refine Calls.mono (times_any f HF.out B _ (f (1#32 <<< k)) wr HB0.out) ?_
      rintro e w' ⟨rfl, rfl⟩
      go_wp2
      go_roundw
      case rel => exact ⟨k + 1, by omega, by go_num, HB0.out.set_other _ _ (by dsimp only; omega), HB1.out.set_other _ _ (by dsimp only; omega), by rw [← partA_set]; exact HB2.out.set _ _, HW.out.setCell (by simp; omega) _⟩
      case measure => simp [intOf]; omega
    · obtain rfl : k = 32 := by omega
      have HX := Lib.hid (partA_full (fun x => f (f x)))
      rw [HX.out] at HB2
      clear hlt hk HX
      go_wp2_with (first | (refine wpList_load_row rfl _ _ rfl _ rfl _ _ _ _ HB2.out Try.underlying55 rfl (by rw [matA_size]; kernel_rfl) ?_) | (refine wpList_store_agg rfl _ _ _ rfl (B + 1) 0 rfl _ rfl _ _ HB1.out (by rw [matA_size]; kernel_rfl) (by rw [matA_size]; simp) (matA_one _) ?_))
      rw [over_all _ _ (by rw [matA_size]; simp)]
      refine bodyPost_ret (results_cell_row (by rfl) _ _ (B + 1) _ _ _ _ rfl (HB1.out.row _) Try.underlying55 rfl (by rw [matA_size]; kernel_rfl)) rfl ⟨rfl, by rw [HBB.out]; exact below_setRow HW.out (by omega) _⟩
end Go.Proofs.Ytkpbkhbgiijbiaa
