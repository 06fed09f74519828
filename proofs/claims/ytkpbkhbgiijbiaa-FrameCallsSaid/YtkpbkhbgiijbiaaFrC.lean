/- The contract of frame.Append. -/
import Derived.Test.YtkpbkhbgiijbiaaFrB
import Derived.Deep.RegionLaw
namespace Go.Proofs.Ytkpbkhbgiijbiaa
open Go.RowKit

set_option maxRecDepth 100000 in
theorem append_long (v : Value) (kind : UInt8) (F : Nat → Prop) (vb : Value) (body : List UInt8) (w : World) (hb : Bytes F w vb body) (hl : 1048576 < body.length) :
    Calls Try.prog 18 #[v, .agg #[.int .u8 (kind.toNat : Int), vb]] w fun e w' => e = .returned (.tuple #[.slice none 0 0, .int .i64 3]) ∧ Below w.heap.size w w' := by
  obtain ⟨a, cap, rfl, e2, e3, _⟩ := Sl.ex hb
  clear hb
  go_enter Try.func18, Try.ntmps18
  go_wp2_with fail
  go_ret2
  exact ⟨rfl, (Below.refl _ _).alloc (Nat.le_refl _) _⟩

theorem head_cells (kind : UInt8) (n : Nat) (h : n ≤ 1048576) : #[Value.int .u8 (kind.toNat : Int), .int .u8 ((n : Int) % (256 : Int)), .int .u8 ((n : Int) / (256 : Int) % (256 : Int)), .int .u8 ((n : Int) / (65536 : Int))] = (u8s (Fr.head kind n)).toArray := by
  have e : (n : Int) / (65536 : Int) = (n : Int) / (65536 : Int) % (256 : Int) := by omega
  rw [e]
  simp only [u8s, Fr.head, List.map_cons, List.map_nil, byte_nat]
  rfl

theorem head_len (kind : UInt8) (n : Nat) : (Fr.head kind n).length = 4 := rfl

set_option maxRecDepth 100000 in
theorem fappend_any (base : Nat) (v : Value) (xs : List UInt8) (kind : UInt8) (F : Nat → Prop) (vb : Value) (body : List UInt8) (w : World) (hbase : base ≤ w.heap.size) (hv : Owned base w v xs) (hb : Bytes F w vb body)
    (hF : ∀ k, F k → v.ownBlock ≠ some k) (hl : body.length ≤ 1048576) (hl2 : xs.length + body.length + 12 ≤ 140737488355328) :
    Calls Try.prog 18 #[v, .agg #[.int .u8 (kind.toNat : Int), vb]] w fun e w' => ∃ v', e = .returned (.tuple #[v', .int .i64 0]) ∧ Owned base w' v' (xs ++ Fr.enc kind body) ∧ Grew w w' v v' := by
  obtain ⟨a, cap, rfl, e2, e3, _⟩ := Sl.ex hb
  have HV := Lib.hid hv
  have HB := Lib.hid hb
  have HF := Lib.hid hF
  clear hv hb hF
  go_enter Try.func18, Try.ntmps18
  go_wp2_with fail
  refine wp_gen fun w1 hw1 => ?_
  have HB0 : Hid (Blk w1 w.heap.size #[.int .u8 (kind.toNat : Int), .slice a body.length cap] 39) := by
    rw [hw1]; exact (Blk.at_new rfl rfl).alloc _
  have HB1 : Hid (Blk w1 (w.heap.size + 1) (u8s (Fr.head kind body.length)).toArray 59) := by
    rw [hw1]; exact Blk.at_new (by simp) (head_cells kind body.length hl)
  have HW1 : Hid (Below w.heap.size w w1) := by
    rw [hw1]; exact ((Below.refl _ _).alloc (Nat.le_refl _) _).alloc (by simp) _
  have HV1 : Hid (Owned base w1 v xs) := HV.out.below HW1.out
  have HS1 : Hid (Bytes (fun k => k = w.heap.size + 1) w1 (.slice (some ⟨w.heap.size + 1, 0, none⟩) 4 4) (Fr.head kind body.length)) := Bytes.lit _ 4 rfl HB1.out rfl (by simp [maxLen])
  have HBo : Hid (Bytes (fun k => F k ∧ k < w.heap.size) w1 (.slice a body.length cap) body) := (HB.out.mono (fun k hk hf => ⟨hf, hk⟩)).below HW1.out
  have HLt : Hid (∀ k, v.ownBlock = some k → k < w.heap.size) := fun k hk => (World.ownsRow.lt HV.out k hk).2
  have hb1 : base ≤ w1.heap.size := Nat.le_trans hbase HW1.out.size
  have HFb : Hid (∀ k, F k → v.ownBlock ≠ some k) := HF
  clear hw1 HB HF
  go_region_law (first
    | (refine step_of_wp rfl (wp_append_bytes (fun k => k = w.heap.size + 1) base v xs (.slice (some ⟨w.heap.size + 1, 0, none⟩) 4 4) (Fr.head kind body.length) _ _ rfl rfl rfl HV1.out (HS1.out.keep (fun _ _ _ => rfl)) (by rw [head_len]; omega) hb1 ?_); intro v1 w2 ho hg; have HO2 := Lib.hid ho; have HG2 := Lib.hid (Grew.of_drew hg); clear ho hg)
    | (go_simp; go_at_call 34; refine Calls.mono (sum4_any base (fun k => k = w.heap.size + 1) v1 (xs ++ Fr.head kind body.length) _ (Fr.head kind body.length) w2 (Nat.le_trans hb1 HG2.out.grown.size) HO2.out (HG2.out.bytes HS1.out (fun k hk e => by have := HLt.out k e; omega)) (by rw [List.length_append, head_len]; omega)) ?_; rintro e w3 ⟨v2, rfl, ho, hg⟩; have HO3 := Lib.hid ho; have HG3 := Lib.hid (HG2.out.trans hg); clear ho hg))
  have hb3 : base ≤ w3.heap.size := Nat.le_trans hb1 HG3.out.grown.size
  have HBo3 : Hid (Bytes (fun k => F k ∧ k < w.heap.size) w3 (.slice a body.length cap) body) := HG3.out.bytes HBo.out (fun k hk => HFb.out k hk.1)
  have HF3 : Hid (∀ k, (F k ∧ k < w.heap.size) → v2.ownBlock ≠ some k) := fun k hk e => by
    rcases HG3.out.own k e with h | h
    · exact HFb.out k hk.1 h
    · have := HW1.out.size; omega
  have HB3 : Hid (Blk w3 w.heap.size #[.int .u8 (kind.toNat : Int), .slice a body.length cap] 39) := HB0.out.same (HG3.out.grown.block _ HB0.out.lt (fun e => by have := HLt.out _ e.symm; omega))
  have k3 : w3.cell? ⟨w.heap.size, 1, none⟩ = some (.slice a body.length cap) := HB3.out.cell rfl
  have HL3 : Hid (∀ k, v2.ownBlock = some k → k ≠ w.heap.size) := fun k hk => by
    rcases HG3.out.own k hk with h | h
    · have := HLt.out k h; omega
    · have := HB0.out.lt; omega
  have HX : Hid (xs ++ Fr.enc kind body = xs ++ Fr.head kind body.length ++ Fr.sum4 (Fr.head kind body.length) ++ body ++ Fr.sum4 body) := by
    show _ = _
    simp [Fr.enc]
  have hxl : (xs ++ Fr.head kind body.length ++ Fr.sum4 (Fr.head kind body.length)).length = xs.length + 8 := by
    rw [List.length_append, List.length_append, head_len, Fr.sum4_len]
  have HXl := Lib.hid hxl
  clear hxl HO2 HG2 HS1 HV1 HB0 HB1 HBo HV
  go_wp2_with fail
  go_region_law (first
    | (refine step_of_wp rfl (wp_append_bytes (fun k => F k ∧ k < w.heap.size) base v2 (xs ++ Fr.head kind body.length ++ Fr.sum4 (Fr.head kind body.length)) (.slice a body.length cap) body _ _ rfl rfl rfl HO3.out (HBo3.out.keep (fun _ _ _ => rfl)) (by rw [HXl.out]; omega) hb3 ?_); intro v3 w4 ho hg; have HO4 := Lib.hid ho; have HG4 := Lib.hid (Grew.of_drew hg); have k4 : w4.cell? ⟨w.heap.size, 1, none⟩ = some (.slice a body.length cap) := (HB3.out.same (HG4.out.grown.block _ HB3.out.lt (fun e => HL3.out _ e.symm rfl))).cell rfl; clear ho hg)
    | (go_simp; go_at_call 34; refine Calls.mono (sum4_any base (fun k => F k ∧ k < w.heap.size) v3 (xs ++ Fr.head kind body.length ++ Fr.sum4 (Fr.head kind body.length) ++ body) _ body w4 (Nat.le_trans hb3 HG4.out.grown.size) HO4.out (HG4.out.bytes HBo3.out HF3.out) (by rw [List.length_append, HXl.out]; omega)) ?_; rintro e w5 ⟨v4, rfl, ho, hg⟩; have HO5 := Lib.hid ho; have HG5 := Lib.hid (HG4.out.trans hg); clear ho hg))
  all_goals
    go_wp2_with fail
    go_ret2
    refine ⟨v4, rfl, ?_, Grew.pre HW1.out (HG3.out.trans HG5.out)⟩
    rw [HX.out]
    exact HO5.out
end Go.Proofs.Ytkpbkhbgiijbiaa
