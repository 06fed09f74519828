/- The document's sum: contracts. -/
import Derived.Test.YtkpbkhbgiijbiaaFrLaws
import Derived.Test.YtkpbkhbgiijbiaaKitB
namespace Go.Proofs.Ytkpbkhbgiijbiaa
open Go.RowKit

theorem step_odd (x : BitVec 32) (h : x.toNat % 2 = 1) : bits .xor .u32 ((x.toNat : Int) / 2) 2197175160 = ((Crc.step x).toNat : Int) := by
  rw [shr1_bv, show (2197175160 : Int) = (((0x82F63B78#32 : BitVec 32).toNat : Nat) : Int) by decide, xor_bv]
  have hb : x.getLsbD 0 = true := by rw [BitVec.getLsbD, Nat.testBit_zero, h]; rfl
  unfold Crc.step
  rw [hb]
  rfl

theorem step_even (x : BitVec 32) (h : x.toNat % 2 = 0) : (x.toNat : Int) / 2 = ((Crc.step x).toNat : Int) := by
  rw [shr1_bv]
  have hb : x.getLsbD 0 = false := by rw [BitVec.getLsbD, Nat.testBit_zero, h]; rfl
  unfold Crc.step
  rw [hb]
  simp

theorem rstep_any (x : BitVec 32) (w : World) :
    Calls Try.prog 44 #[.int .u32 (x.toNat : Int)] w fun e w' => e = .returned (.int .u32 ((Crc.step x).toNat : Int)) ∧ w' = w := by
  have hx := x.isLt
  by_cases h : x.toNat % 2 = 1
  · have ho := step_odd x h
    have hd : ((x.toNat : Int).tmod 2 == 1) = true := by
      rw [Int.tmod_eq_emod_of_nonneg (by omega)]; simp; omega
    go_enter Try.func44, Try.ntmps44
    go_wp2
    go_ret
    exact ⟨rfl, rfl⟩
  · have ho := step_even x (by omega)
    have hd : ((x.toNat : Int).tmod 2 == 1) = false := by
      rw [Int.tmod_eq_emod_of_nonneg (by omega)]; simp; omega
    go_enter Try.func44, Try.ntmps44
    go_wp2
    go_ret
    exact ⟨rfl, rfl⟩

set_option maxRecDepth 100000 in
theorem rupd_any (F : Nat → Prop) (s : BitVec 32) (v : Value) (bs : List UInt8) (w : World) (hv : Bytes F w v bs) :
    Calls Try.prog 43 #[.int .u32 (s.toNat : Int), v] w fun e w' => e = .returned (.int .u32 ((Crc.update s bs).toNat : Int)) ∧ w' = w := by
  have hl := hv.len
  obtain ⟨a, c, rfl⟩ := hv.isSlice
  have HV := Lib.hid hv
  clear hv
  unfold maxLen at hl
  go_enter Try.func43, Try.ntmps43
  go_wp2_with fail
  go_loop [5, 6, 7] (fun c i _ => ∃ j : Nat, i = .int .i64 j ∧ j ≤ bs.length ∧ c = .int .u32 ((Crc.upd (~~~ s) (bs.take j)).toNat : Int)) (fun _ i _ => bs.length - (intOf i).toNat)
  case atStart => exact ⟨0, rfl, by omega, by rw [not_form]; simp [Crc.upd]⟩
  case round =>
    obtain ⟨j, rfl, hj, rfl⟩ := hrel
    by_cases hlt : j < bs.length
    · obtain ⟨b, off, cap, ea, _, _, _, _, hc⟩ := Sl.place HV.out (by rw [u8s_len]; omega)
      injection ea with e1 e2 e3
      subst e1 e3
      clear e2
      have k1 := hc j _ (u8s_get _ _ hlt)
      have hts : bs.take (j + 1) = bs.take j ++ [bs.getD j 0] := by rw [List.take_succ_eq_append_getElem hlt]; simp [List.getD, hlt]
      have HS := Lib.hid (show Crc.upd (~~~ s) (bs.take (j + 1)) = Crc.byte8 (Crc.upd (~~~ s) (bs.take j)) (bs.getD j 0) by rw [hts, Crc.upd_snoc])
      clear hc hts
      generalize Crc.upd (~~~ s) (bs.take j) = x at *
      generalize bs.getD j 0 = y at *
      have HX : Hid (bits .xor .u32 (x.toNat : Int) ((y.toNat : Int) % (4294967296 : Int)) = ((x ^^^ BitVec.ofNat 32 y.toNat).toNat : Int)) := by
        have := y.toNat_lt
        have e : (y.toNat : Int) % (4294967296 : Int) = ((BitVec.ofNat 32 y.toNat).toNat : Int) := by simp only [BitVec.toNat_ofNat]; omega
        show _ = _
        rw [e, xor_bv]
      go_wp2_with fail
      rw [HX.out]
      have HS8 : Hid (Crc.upd (~~~ s) (bs.take (j + 1)) = Crc.iter 8 (x ^^^ BitVec.ofNat 32 y.toNat)) := HS.out
      clear HS HX
      generalize x ^^^ BitVec.ofNat 32 y.toNat = z0 at *
      go_loop [5, 7] (fun c k => ∃ m : Nat, k = .int .i64 m ∧ m ≤ 8 ∧ c = .int .u32 ((Crc.iter m z0).toNat : Int)) (fun _ k => 8 - (intOf k).toNat)
      case atStart => exact ⟨0, rfl, by omega, rfl⟩
      case round =>
        obtain ⟨m, rfl, hm, rfl⟩ := hrel
        by_cases hlt2 : m < 8
        · have HI := Lib.hid (Crc.iter_succ m z0)
          generalize Crc.iter m z0 = z at *
          go_wp2_with fail
          refine Calls.mono (rstep_any z _) ?_
          rintro e w1 ⟨rfl, rfl⟩
          rw [← HI.out]
          go_wp2_with fail
          go_round
          case rel => exact ⟨m + 1, by go_num, by omega, rfl⟩
          case measure => simp only [intOf]; omega
        · obtain rfl : m = 8 := by omega
          go_wp2_with fail
          go_round
          case rel => exact ⟨j + 1, by go_num, by omega, by rw [HS8.out]⟩
          case measure => simp only [intOf]; omega
    · obtain rfl : j = bs.length := by omega
      go_wp2_with fail
      go_ret
      exact ⟨ret_int (not_form _), rfl⟩

theorem rsum_any (F : Nat → Prop) (v : Value) (bs : List UInt8) (w : World) (hv : Bytes F w v bs) :
    Calls Try.prog 40 #[v] w fun e w' => e = .returned (.int .u32 ((Crc.update 0#32 bs).toNat : Int)) ∧ w' = w := by
  have HV := Lib.hid hv
  clear hv
  go_enter Try.func40, Try.ntmps40
  go_wp2_with fail
  refine Calls.mono (rupd_any F 0#32 v bs _ HV.out) ?_
  rintro e w1 ⟨rfl, rfl⟩
  go_wp2_with fail
  go_ret
  exact ⟨rfl, rfl⟩

theorem rmask_any (x : BitVec 32) (w : World) :
    Calls Try.prog 39 #[.int .u32 (x.toNat : Int)] w fun e w' => e = .returned (.int .u32 ((maskW x).toNat : Int)) ∧ w' = w := by
  go_enter Try.func39, Try.ntmps39
  go_wp2_with fail
  go_ret
  refine ⟨ret_int ?_, rfl⟩
  have e : bits .or .u32 ((x.toNat : Int) / 32768) ((x.toNat : Int) * 131072 % 4294967296) = ((rotR x).toNat : Int) := by
    have h1 : (x.toNat : Int) * (131072 : Int) % (4294967296 : Int) = ((x <<< 17).toNat : Int) := by
      rw [BitVec.toNat_shiftLeft, Nat.shiftLeft_eq]; omega
    have h2 : (x.toNat : Int) / (32768 : Int) = ((x >>> 15).toNat : Int) := by
      rw [BitVec.toNat_ushiftRight, Nat.shiftRight_eq_div_pow]; omega
    rw [h1, h2, or_bv, BitVec.or_comm]; rfl
  rw [e]
  unfold maskW
  rw [BitVec.toNat_add]
  simp only [BitVec.toNat_ofNat]
  omega
end Go.Proofs.Ytkpbkhbgiijbiaa
