/- Contracts of package frame's small functions: masked, sum, is; bytes.Clone; Size. -/
import Derived.Test.YtkpbkhbgiijbiaaCrcJoin
import Derived.Test.YtkpbkhbgiijbiaaFrMath
namespace Go.Proofs.Ytkpbkhbgiijbiaa
open Go.RowKit

theorem byte_nat (n : Nat) : (((UInt8.ofNat (n % 256)).toNat : Nat) : Int) = ((n % 256 : Nat) : Int) := by
  rw [UInt8.toNat_ofNat']; omega

theorem four_cells (x : BitVec 32) : #[Value.int .u8 ((x.toNat : Int) % (256 : Int)), .int .u8 ((x.toNat : Int) / (256 : Int) % (256 : Int)), .int .u8 ((x.toNat : Int) / (65536 : Int) % (256 : Int)), .int .u8 ((x.toNat : Int) / (16777216 : Int))] = (u8s (Fr.four x)).toArray := by
  have hx := x.isLt
  have e : (x.toNat : Int) / (16777216 : Int) = (x.toNat : Int) / (16777216 : Int) % (256 : Int) := by omega
  rw [e]
  simp only [u8s, Fr.four, List.map_cons, List.map_nil, byte_nat]
  rfl

theorem four_one (x : BitVec 32) : ∀ v ∈ ((u8s (Fr.four x)).toArray).toList, v.oneCell' = true := by
  intro v hv; exact u8s_one _ v (by simpa using hv)

set_option maxRecDepth 100000 in
theorem masked_any (F : Nat → Prop) (v : Value) (bs : List UInt8) (w : World) (hv : Bytes F w v bs) :
    Calls Try.prog 42 #[v] w fun e w' => e = .returned (.agg (u8s (Fr.sum4 bs)).toArray) ∧ Below w.heap.size w w' := by
  have HV := Lib.hid hv; clear hv
  go_enter Try.func42, Try.ntmps42
  go_wp2_with fail
  refine calls_gen fun w1 hw1 => ?_
  have HB : Hid (Blk w1 w.heap.size #[.int .u8 0, .int .u8 0, .int .u8 0, .int .u8 0] 59) := by rw [hw1]; exact Blk.at_new rfl rfl
  have HW : Hid (Below w.heap.size w w1) := by rw [hw1]; exact (Below.refl _ _).alloc (Nat.le_refl _) _
  have HV1 : Hid (Bytes F w1 v bs) := HV.out.below HW.out
  clear hw1 HV
  refine Calls.mono (sum_any F v bs w1 HV1.out) ?_
  rintro e w2 ⟨rfl, hb⟩
  have HB2 := Lib.hid (HB.out.below hb HB.out.lt)
  have HW2 := Lib.hid (HW.out.trans (hb.mono HW.out.size))
  clear hb HB HW HV1
  go_wp2_with fail
  refine Calls.mono (mask_any _ _) ?_
  rintro e w3 ⟨rfl, rfl⟩
  have HX : Hid (Fr.sum4 bs = Fr.four (maskW (Crc.update 0#32 bs))) := rfl
  generalize maskW (Crc.update 0#32 bs) = x at *
  go_wp2_with (refine wpList_store_agg rfl _ _ _ rfl w.heap.size 0 rfl _ rfl _ _ HB2.out (by kernel_rfl) (by simp) ?_ ?_)
  · exact ⟨rfl, rfl, rfl, rfl⟩
  · refine bodyPost_ret (results_cell_row (by rfl) _ _ w.heap.size 59 (u8s (Fr.four x)).toArray (0, 0) _ rfl ?_ Try.underlying59 rfl (by kernel_rfl)) rfl ⟨by rw [HX.out], below_setRow HW2.out (Nat.le_refl _) _⟩
    rw [← four_cells]
    exact HB2.out.row _

theorem sum4_one (os : List UInt8) : ∀ v ∈ ((u8s (Fr.sum4 os)).toArray).toList, v.oneCell' = true := by
  intro v hv; exact u8s_one _ v (by simpa using hv)

set_option maxRecDepth 100000 in
theorem sum4_any (base : Nat) (F : Nat → Prop) (v : Value) (xs : List UInt8) (vo : Value) (os : List UInt8) (w : World) (hb : base ≤ w.heap.size) (hv : Owned base w v xs) (ho : Bytes F w vo os) (hl : xs.length + 4 ≤ 140737488355328) :
    Calls Try.prog 34 #[v, vo] w fun e w' => ∃ v', e = .returned v' ∧ Owned base w' v' (xs ++ Fr.sum4 os) ∧ Grew w w' v v' := by
  obtain ⟨i0, hi, hz0, hz1, hz2⟩ := info_parts info_u8
  have HI := Lib.hid (And.intro hi (And.intro hz0 (And.intro hz1 hz2))); clear hi hz0 hz1 hz2
  have HV := Lib.hid hv; have HO := Lib.hid ho; clear hv ho
  go_enter Try.func34, Try.ntmps34
  go_wp2_with fail
  refine Calls.mono (masked_any F vo os w HO.out) ?_
  rintro e w1 ⟨rfl, hb1⟩
  have HW := Lib.hid hb1
  clear hb1
  go_wp2_with (with_reducible refine pause_store ?_)
  refine Pause.go (wpList_store_agg rfl _ _ _ rfl w1.heap.size 0 rfl _ rfl _ _ (Blk.alloc_new _ _ _) (by kernel_rfl) (by simp [u8s, Fr.sum4_len]) (sum4_one os) ?_)
  refine list_gen fun w2 hw2 => ?_
  have HW2 : Hid (Below w.heap.size w w2) := by rw [hw2]; exact below_setRow (HW.out.alloc HW.out.size _) HW.out.size _
  have HB2 : Hid (w2.heap[w1.heap.size]? = some (.cells (u8s (Fr.sum4 os)).toArray 59 (0, 0))) := by
    rw [hw2]
    have := (Blk.alloc_new w1 #[.int .u8 0, .int .u8 0, .int .u8 0, .int .u8 0] 59).row (u8s (Fr.sum4 os)).toArray
    rw [over_all _ _ (by simp [u8s, Fr.sum4_len])]
    exact this
  have HV2 : Hid (Owned base w2 v xs) := HV.out.below HW2.out
  have HS2 : Hid (Bytes (fun k => k = w1.heap.size) w2 (.slice (some ⟨w1.heap.size, 0, none⟩) 4 4) (Fr.sum4 os)) := Bytes.lit _ 4 rfl HB2.out rfl (by simp [maxLen])
  have hb2 : base ≤ w2.heap.size := Nat.le_trans hb HW2.out.size
  clear hw2 HW HB2 HV HO HI
  go_wp2_with (with_reducible refine pause_append ?_)
  refine Pause.go (wpList_append_bytes _ base v xs _ (Fr.sum4 os) rfl _ _ rfl rfl rfl HV2.out HS2.out (by rw [Fr.sum4_len]; exact hl) hb2 ?_)
  intro v' w3 ho hg
  have HO3 := Lib.hid ho
  have HG := Lib.hid hg
  clear ho hg
  go_wp2_with fail
  go_ret
  exact ⟨v', rfl, HO3.out, Grew.pre HW2.out HG.out⟩

theorem fsize_any (n : Int) (w : World) (h0 : -9223372036854775808 ≤ n) (h1 : n ≤ 9223372036854775000) :
    Calls Try.prog 27 #[.int .i64 n] w fun e w' => e = .returned (.int .i64 (max 0 n + 12)) ∧ w = w' := by
  by_cases h : 0 < n
  · have e : max 0 n + 12 = 8 + n + 4 := by omega
    rw [e]
    clear e
    go_enter Try.func27, Try.ntmps27
    go_wp2
    go_ret
    exact ⟨rfl, rfl⟩
  · have e : max 0 n + 12 = 12 := by omega
    rw [e]
    clear e
    go_enter Try.func27, Try.ntmps27
    go_wp2
    go_ret
    exact ⟨rfl, rfl⟩

end Go.Proofs.Ytkpbkhbgiijbiaa
