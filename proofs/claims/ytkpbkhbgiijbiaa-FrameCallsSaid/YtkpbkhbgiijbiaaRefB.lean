/- The document's frames: contracts. -/
import Derived.Test.YtkpbkhbgiijbiaaRefA
import Derived.Deep.RegionHeld3
namespace Go.Proofs.Ytkpbkhbgiijbiaa
open Go.RowKit

set_option maxRecDepth 100000 in
theorem rfour_any (base : Nat) (v : Value) (xs : List UInt8) (x : BitVec 32) (w : World) (hb : base ≤ w.heap.size) (hv : Owned base w v xs) (hl : xs.length + 4 ≤ 140737488355328) :
    Calls Try.prog 38 #[v, .int .u32 (x.toNat : Int)] w fun e w' => ∃ v', e = .returned v' ∧ Owned base w' v' (xs ++ Fr.four x) ∧ Grew w w' v v' := by
  have HV := Lib.hid hv
  clear hv
  go_enter Try.func38, Try.ntmps38
  go_wp2_with (with_reducible refine pause_append ?_)
  refine list_gen fun W2 hW2 => ?_
  rw [four_cells] at hW2
  have HV2 : Hid (Owned base W2 v xs) := by rw [hW2]; exact HV.out.below ((Below.refl _ _).alloc (Nat.le_refl _) _)
  have HL : Hid (Bytes (fun k => k = w.heap.size) W2 (.slice (some ⟨w.heap.size, 0, none⟩) 4 4) (Fr.four x)) := by
    rw [hW2]; exact Bytes.lit _ _ rfl (Blk.at_new rfl rfl) rfl (by decide)
  have HW2 : Hid (Below w.heap.size w W2) := by rw [hW2]; exact (Below.refl _ _).alloc (Nat.le_refl _) _
  clear hW2
  refine Pause.go (wpList_append_bytes _ base v xs _ (Fr.four x) rfl _ _ rfl rfl rfl HV2.out HL.out hl (Nat.le_trans hb HW2.out.size) ?_)
  intro v3 w3 ho3 hg3
  have HO3 := Lib.hid ho3
  have HG3 := Lib.hid hg3
  clear ho3 hg3
  go_wp2_with fail
  go_ret
  exact ⟨v3, rfl, HO3.out, Grew.pre HW2.out HG3.out⟩

theorem head_cells' (kind : UInt8) (n : Nat) (h : n ≤ 16777215) : #[Value.int .u8 (kind.toNat : Int), .int .u8 ((n : Int) % (256 : Int)), .int .u8 ((n : Int) / (256 : Int) % (256 : Int)), .int .u8 ((n : Int) / (65536 : Int))] = (u8s (Fr.head kind n)).toArray := by
  have e : (n : Int) / (65536 : Int) = (n : Int) / (65536 : Int) % (256 : Int) := by omega
  rw [e]
  simp only [u8s, Fr.head, List.map_cons, List.map_nil, byte_nat]
  rfl

set_option maxRecDepth 100000 in
theorem rhead_any (kind : UInt8) (n : Nat) (w : World) (hn : n ≤ 16777215) :
    Calls Try.prog 37 #[.int .u8 (kind.toNat : Int), .int .i64 (n : Int)] w fun e w' => ∃ v', e = .returned v' ∧ Owned w.heap.size w' v' (Fr.head kind n ++ Fr.sum4 (Fr.head kind n)) ∧ Below w.heap.size w w' := by
  go_enter Try.func37, Try.ntmps37
  go_wp2_with fail
  refine calls_gen fun W2 hW2 => ?_
  rw [head_cells' kind n hn] at hW2
  have HO : Hid (Owned w.heap.size W2 (.slice (some ⟨w.heap.size, 0, none⟩) 4 4) (Fr.head kind n)) := by
    rw [hW2]; exact World.ownsRow_lit w (u8s (Fr.head kind n)).toArray 4 (Nat.le_refl _) (by simp [maxLen]) rfl
  have HW2 : Hid (Below w.heap.size w W2) := by rw [hW2]; exact (Below.refl _ _).alloc (Nat.le_refl _) _
  clear hW2
  refine Calls.mono (rsum_any _ _ _ _ HO.out.bytes) ?_
  rintro e w3 ⟨rfl, rfl⟩
  go_wp2_with fail
  refine Calls.mono (rmask_any _ _) ?_
  rintro e w4 ⟨rfl, rfl⟩
  go_wp2_with fail
  refine Calls.mono (rfour_any w.heap.size _ _ _ _ HW2.out.size HO.out (by rw [head_len]; decide)) ?_
  rintro e w5 ⟨v5, rfl, ho, hg⟩
  have HO5 := Lib.hid ho
  have HW5 : Hid (Below w.heap.size w w5) := HW2.out.trans (hg.below HW2.out.size fun k e => (World.ownsRow.lt HO.out k e).1)
  clear ho hg
  go_wp2_with fail
  go_ret
  exact ⟨v5, rfl, HO5.out, HW5.out⟩

theorem rsize_any (n : Int) (w : World) (h0 : -9223372036854775808 ≤ n) (h1 : n ≤ 9223372036854775000) :
    Calls Try.prog 28 #[.int .i64 n] w fun e w' => e = .returned (.int .i64 (max 0 n + 12)) ∧ w' = w := by
  by_cases h : 0 < n
  · have e : max 0 n + 12 = n + 12 := by omega
    rw [e]
    clear e
    go_enter Try.func28, Try.ntmps28
    go_wp2
    go_ret
    exact ⟨rfl, rfl⟩
  · have e : max 0 n + 12 = 12 := by omega
    rw [e]
    clear e
    go_enter Try.func28, Try.ntmps28
    go_wp2
    go_ret
    exact ⟨rfl, rfl⟩

set_option maxRecDepth 100000 in
set_option maxHeartbeats 2000000 in
theorem rappend_any (base : Nat) (v : Value) (xs : List UInt8) (kind : UInt8) (F : Nat → Prop) (vb : Value) (body : List UInt8) (w : World) (hbase : base ≤ w.heap.size) (hv : Owned base w v xs) (hb : Bytes F w vb body)
    (hF : ∀ k, F k → k < base) (hl : body.length ≤ 1048576) (hl2 : xs.length + body.length + 12 ≤ 140737488355328) :
    Calls Try.prog 22 #[v, .agg #[.int .u8 (kind.toNat : Int), vb]] w fun e w' => ∃ v', e = .returned (.tuple #[v', .int .i64 0]) ∧ Owned base w' v' (xs ++ Fr.enc kind body) ∧ Grew w w' v v' := by
  obtain ⟨a, cap, rfl⟩ := hb.isSlice
  have HV := Lib.hid hv
  have HB := Lib.hid hb
  have HF := Lib.hid hF
  clear hv hb hF
  go_enter Try.func22, Try.ntmps22
  go_wp2_with fail
  refine wp_gen fun w1 hw1 => ?_
  have HB0 : Hid (Blk w1 w.heap.size #[.int .u8 (kind.toNat : Int), .slice a body.length cap] 39) := by
    rw [hw1]; exact Blk.at_new rfl rfl
  have HW1 : Hid (Below w.heap.size w w1) := by rw [hw1]; exact (Below.refl _ _).alloc (Nat.le_refl _) _
  have HV1 : Hid (Owned base w1 v xs) := HV.out.below HW1.out
  have HBo : Hid (Bytes (fun k => F k ∧ k < w.heap.size) w1 (.slice a body.length cap) body) := (HB.out.mono (fun k hk hf => ⟨hf, hk⟩)).below HW1.out
  have HLt : Hid (∀ k, v.ownBlock = some k → base ≤ k ∧ k < w.heap.size) := fun k hk => World.ownsRow.lt HV.out k hk
  have hb1 : base ≤ w1.heap.size := Nat.le_trans hbase HW1.out.size
  have hS1 : w1.drew.cell? ⟨w.heap.size, 0, none⟩ = some (.int .u8 (kind.toNat : Int)) ∧ w1.drew.cell? ⟨w.heap.size, 1, none⟩ = some (.slice a body.length cap) := ⟨HB0.out.cell rfl, HB0.out.cell rfl⟩
  have hXl : (xs ++ (Fr.head kind body.length ++ Fr.sum4 (Fr.head kind body.length))).length = xs.length + 8 := by
    rw [List.length_append, List.length_append, head_len, Fr.sum4_len]
  have HXl := Lib.hid hXl
  have HH8 : Hid ((Fr.head kind body.length ++ Fr.sum4 (Fr.head kind body.length)).length = 8) := rfl
  clear hw1 HB HV hXl
  go_region_held3 (fun w' => w'.cell? ⟨w.heap.size, 0, none⟩ = some (.int .u8 (kind.toNat : Int)) ∧ w'.cell? ⟨w.heap.size, 1, none⟩ = some (.slice a body.length cap)) (first | assumption | go_keep)
    (first
    | (go_at_call 37; refine Calls.mono (rhead_any kind body.length _ (by omega)) ?_; rintro e w3 ⟨vh, rfl, ho, hb⟩; have HO3 := Lib.hid ho; have HB3 : Hid (Below w1.heap.size w1 w3) := below_of_drew hb; have hS3 : w3.cell? ⟨w.heap.size, 0, none⟩ = some (.int .u8 (kind.toNat : Int)) ∧ w3.cell? ⟨w.heap.size, 1, none⟩ = some (.slice a body.length cap) := ⟨(HB0.out.below HB3.out HB0.out.lt).cell rfl, (HB0.out.below HB3.out HB0.out.lt).cell rfl⟩; clear ho hb)
    | (refine step_of_wp rfl (wp_append_bytes (fun k => w1.heap.size ≤ k) base v xs vh (Fr.head kind body.length ++ Fr.sum4 (Fr.head kind body.length)) _ _ rfl rfl rfl (HV1.out.below HB3.out) HO3.out.bytesFrom (by rw [HH8.out]; omega) (Nat.le_trans hb1 HB3.out.size) ?_); intro v4 w4 ho hg; have HO4 := Lib.hid ho; have HG4 := Lib.hid (Grew.pre HB3.out hg); have HB4 : Hid (Blk w4 w.heap.size _ _) := HB0.out.same (HG4.out.grown.block _ HB0.out.lt (fun e => by have := (HLt.out _ e.symm).2; omega)); have hS4 : w4.cell? ⟨w.heap.size, 0, none⟩ = some (.int .u8 (kind.toNat : Int)) ∧ w4.cell? ⟨w.heap.size, 1, none⟩ = some (.slice a body.length cap) := ⟨HB4.out.cell rfl, HB4.out.cell rfl⟩; clear ho hg)
    | (refine step_of_wp rfl (wp_append_bytes (fun k => F k ∧ k < w.heap.size) base v4 (xs ++ (Fr.head kind body.length ++ Fr.sum4 (Fr.head kind body.length))) (.slice a body.length cap) body _ _ rfl rfl rfl HO4.out (HG4.out.bytes HBo.out (fun k hk e => by have h1 := (HLt.out k e).1; have h2 := HF.out k hk.1; omega)) (by rw [HXl.out]; omega) (Nat.le_trans hb1 HG4.out.grown.size) ?_); intro v5 w5 ho hg; have HO5 := Lib.hid ho; have HG5 := Lib.hid (HG4.out.trans hg); have HB5 : Hid (Blk w5 w.heap.size _ _) := HB0.out.same (HG5.out.grown.block _ HB0.out.lt (fun e => by have := (HLt.out _ e.symm).2; omega)); have hS5 : w5.cell? ⟨w.heap.size, 0, none⟩ = some (.int .u8 (kind.toNat : Int)) ∧ w5.cell? ⟨w.heap.size, 1, none⟩ = some (.slice a body.length cap) := ⟨HB5.out.cell rfl, HB5.out.cell rfl⟩; clear ho hg))
  have k5 := hS5.2
  have HBo5 : Hid (Bytes (fun k => F k ∧ k < w.heap.size) w5 (.slice a body.length cap) body) := HG5.out.bytes HBo.out (fun k hk e => by have h1 := (HLt.out k e).1; have h2 := HF.out k hk.1; omega)
  have hbs5 : base ≤ w5.heap.size := Nat.le_trans hb1 HG5.out.grown.size
  have HX : Hid (xs ++ Fr.enc kind body = xs ++ (Fr.head kind body.length ++ Fr.sum4 (Fr.head kind body.length)) ++ body ++ Fr.sum4 body) := by
    show _ = _
    simp [Fr.enc]
  clear HO4 HG4 HB4 hS4 HO3 HB3 hS3 hS1 hS5 HB5 HBo HB0 HV1
  go_wp2_with fail
  refine Calls.mono (rsum_any _ _ _ _ HBo5.out) ?_
  rintro e w6 ⟨rfl, rfl⟩
  go_wp2_with fail
  refine Calls.mono (rmask_any _ _) ?_
  rintro e w7 ⟨rfl, rfl⟩
  go_wp2_with fail
  refine Calls.mono (rfour_any base _ _ _ _ hbs5 HO5.out (by rw [List.length_append, HXl.out]; omega)) ?_
  rintro e w8 ⟨v8, rfl, ho, hg⟩
  have HO8 := Lib.hid ho
  have HG8 := Lib.hid (HG5.out.trans hg)
  clear ho hg
  go_wp2_with fail
  go_ret2
  refine ⟨v8, rfl, ?_, Grew.pre HW1.out HG8.out⟩
  rw [HX.out]
  exact HO8.out
end Go.Proofs.Ytkpbkhbgiijbiaa
