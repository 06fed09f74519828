/- The statement FrameCalls: its walk. -/
import Derived.Test.YtkpbkhbgiijbiaaRefE
import Derived.Deep.RegionHeld3
namespace Go.Proofs.Ytkpbkhbgiijbiaa
open Go.RowKit

theorem frameCalls_early (W : World) (kind : UInt8) (vf : Value) (body : List UInt8) (hf : Bytes (· < W.heap.size) W vf body) (vb : Value) (bs : List UInt8) (hb : Bytes (· < W.heap.size) W vb bs) (vr : Value) (row : List UInt8) (hr : Bytes (· < W.heap.size) W vr row) (x : Int)
    (h : 4000 < body.length ∨ 4000 < bs.length ∨ 4000 < row.length) :
    Calls Try.prog 7 #[.agg #[.int .u8 (kind.toNat : Int), vf], vb, vr, .int .i64 x] W fun e w' => e = .returned (.bool true) ∧ Below W.heap.size W w' := by
  obtain ⟨a, c, rfl⟩ := hf.isSlice
  obtain ⟨a1, c1, rfl⟩ := hb.isSlice
  obtain ⟨a2, c2, rfl⟩ := hr.isSlice
  clear hf hb hr
  go_enter Try.func7, Try.ntmps7
  go_wp2_with fail
  refine calls_gen fun w0 hw0 => ?_
  have HB0 : Hid (Blk w0 W.heap.size #[.int .u8 (kind.toNat : Int), .slice a body.length c] 39) := by rw [hw0]; exact Blk.at_new rfl rfl
  have HW0 : Hid (Below W.heap.size W w0) := by rw [hw0]; exact (Below.refl _ _).alloc (Nat.le_refl _) _
  clear hw0
  refine Calls.mono (lives3_any _) ?_
  rintro e w1 ⟨rfl, hb1⟩
  have HB1 := Lib.hid (HB0.out.below hb1 HB0.out.lt)
  have HW1 : Hid (Below W.heap.size W w1) := HW0.out.trans (hb1.mono HW0.out.size)
  have k1 : w1.cell? ⟨W.heap.size, 1, none⟩ = some (.slice a body.length c) := HB1.out.cell rfl
  clear hb1
  rcases h with h | h | h
  · have h' : (4000 : Int) < (body.length : Int) := by omega
    go_wp2_with fail
    go_ret
    exact ⟨rfl, HW1.out⟩
  · by_cases g : 4000 < body.length
    · have g' : (4000 : Int) < (body.length : Int) := by omega
      go_wp2_with fail
      go_ret
      exact ⟨rfl, HW1.out⟩
    · have g' : decide ((4000 : Int) < (body.length : Int)) = false := by simp; omega
      have h' : (4000 : Int) < (bs.length : Int) := by omega
      go_wp2_with fail
      go_ret
      exact ⟨rfl, HW1.out⟩
  · by_cases g : 4000 < body.length
    · have g' : (4000 : Int) < (body.length : Int) := by omega
      go_wp2_with fail
      go_ret
      exact ⟨rfl, HW1.out⟩
    · have g' : decide ((4000 : Int) < (body.length : Int)) = false := by simp; omega
      by_cases g2 : 4000 < bs.length
      · have g2' : (4000 : Int) < (bs.length : Int) := by omega
        go_wp2_with fail
        go_ret
        exact ⟨rfl, HW1.out⟩
      · have g2' : decide ((4000 : Int) < (bs.length : Int)) = false := by simp; omega
        have h' : (4000 : Int) < (row.length : Int) := by omega
        go_wp2_with fail
        go_ret
        exact ⟨rfl, HW1.out⟩

theorem Owned.lt {base : Nat} {w : World} {v : Value} {bs : List UInt8} (h : Owned base w v bs) : ∀ k, v.ownBlock = some k → base ≤ k ∧ k < w.heap.size := World.ownsRow.lt h

/-- What stays through the law's run. -/
structure FCB (W : World) (kind : UInt8) (vf : Value) (body : List UInt8) (vb : Value) (bs : List UInt8) (vr : Value) (row : List UInt8) (w : World) : Prop where
  blk : Blk w W.heap.size #[.int .u8 (kind.toNat : Int), vf] 39
  f : Bytes (· < W.heap.size) w vf body
  b : Bytes (· < W.heap.size) w vb bs
  r : Bytes (· < W.heap.size) w vr row
  w : Below W.heap.size W w

section
variable {W : World} {kind : UInt8} {vf : Value} {body : List UInt8} {vb : Value} {bs : List UInt8} {vr : Value} {row : List UInt8} {w w' : World}
theorem FCB.next (h : FCB W kind vf body vb bs vr row w) (hb : Below w.heap.size w w') : FCB W kind vf body vb bs vr row w' :=
  ⟨h.blk.below hb h.blk.lt, h.f.below hb, h.b.below hb, h.r.below hb, h.w.trans (hb.mono h.w.size)⟩
theorem FCB.drewN (h : FCB W kind vf body vb bs vr row w) (n : Nat) : FCB W kind vf body vb bs vr row (w.drewN n) :=
  ⟨h.blk, h.f.keep fun _ _ _ => rfl, h.b.keep fun _ _ _ => rfl, h.r.keep fun _ _ _ => rfl, ⟨h.w.os, h.w.tape, h.w.output, h.w.size, h.w.block⟩⟩
theorem FCB.drew (h : FCB W kind vf body vb bs vr row w) : FCB W kind vf body vb bs vr row w.drew := h.drewN 1
theorem FCB.cells (h : FCB W kind vf body vb bs vr row w) : w.cell? ⟨W.heap.size, 0, none⟩ = some (.int .u8 (kind.toNat : Int)) ∧ w.cell? ⟨W.heap.size, 1, none⟩ = some vf := ⟨h.blk.cell rfl, h.blk.cell rfl⟩
end

theorem Fr.rowFrom_len (b : List UInt8) : ∀ (fuel at_ : Nat) (l : List Fr.T), (Fr.rowFrom b fuel at_ l).1.length ≤ l.length + fuel
  | 0, at_, l => by simp [Fr.rowFrom]
  | fuel + 1, at_, l => by
    rw [Fr.rowFrom]
    split
    · dsimp only
      split
      · simp
      · have := Fr.rowFrom_len b fuel (at_ + (Fr.read (b.drop at_)).2.1) (l ++ [(Fr.read (b.drop at_)).1])
        simp only [List.length_append, List.length_singleton] at this
        omega
    · simp
theorem Fr.row_len (b : List UInt8) : (Fr.row b).1.length ≤ b.length := by
  have := Fr.rowFrom_len b b.length 0 []
  simpa [Fr.row] using this

set_option maxRecDepth 100000 in
set_option maxHeartbeats 2000000 in
theorem frameCalls_main (W : World) (kind : UInt8) (vf : Value) (body : List UInt8) (hf : Bytes (· < W.heap.size) W vf body) (vb : Value) (bs : List UInt8) (hb : Bytes (· < W.heap.size) W vb bs) (vr : Value) (row : List UInt8) (hr : Bytes (· < W.heap.size) W vr row) (x : Int) (hx0 : -9223372036854775808 ≤ x) (hx1 : x ≤ 9223372036854775807)
    (h1 : body.length ≤ 4000) (h2 : bs.length ≤ 4000) (h3 : row.length ≤ 4000) :
    Calls Try.prog 7 #[.agg #[.int .u8 (kind.toNat : Int), vf], vb, vr, .int .i64 x] W fun e w' => e = .returned (.bool true) ∧ Below W.heap.size W w' := by
  obtain ⟨a, c, rfl⟩ := hf.isSlice
  obtain ⟨a1, c1, rfl⟩ := hb.isSlice
  obtain ⟨a2, c2, rfl⟩ := hr.isSlice
  have HF := Lib.hid hf
  have HB := Lib.hid hb
  have HR := Lib.hid hr
  clear hf hb hr
  go_enter Try.func7, Try.ntmps7
  go_wp2_with fail
  refine calls_gen fun w0 hw0 => ?_
  have HK0 : Hid (Blk w0 W.heap.size #[.int .u8 (kind.toNat : Int), .slice a body.length c] 39) := by rw [hw0]; exact Blk.at_new rfl rfl
  have HW0 : Hid (Below W.heap.size W w0) := by rw [hw0]; exact (Below.refl _ _).alloc (Nat.le_refl _) _
  clear hw0
  refine Calls.mono (lives3_any _) ?_
  rintro e w1 ⟨rfl, hb1⟩
  have HX1 : Hid (FCB W kind (.slice a body.length c) body (.slice a1 bs.length c1) bs (.slice a2 row.length c2) row w1) :=
    FCB.next ⟨HK0.out, HF.out.below HW0.out, HB.out.below HW0.out, HR.out.below HW0.out, HW0.out⟩ hb1
  have k0 := HX1.out.cells.1
  have k1 := HX1.out.cells.2
  have hS1 : w1.drew.cell? ⟨W.heap.size, 0, none⟩ = some (.int .u8 (kind.toNat : Int)) ∧ w1.drew.cell? ⟨W.heap.size, 1, none⟩ = some (.slice a body.length c) := HX1.out.cells
  clear hb1 HK0 HF HB HR HW0
  have g1 : decide ((4000 : Int) < (body.length : Int)) = false := by simp; omega
  have g2 : decide ((4000 : Int) < (bs.length : Int)) = false := by simp; omega
  have g3 : decide ((4000 : Int) < (row.length : Int)) = false := by simp; omega
  go_wp2_with fail
  clear g1 g2 g3 k0 k1
  go_region_held3 (fun w' => w'.cell? ⟨W.heap.size, 0, none⟩ = some (.int .u8 (kind.toNat : Int)) ∧ w'.cell? ⟨W.heap.size, 1, none⟩ = some (.slice a body.length c)) (first | assumption | go_keep)
    (first
    | (go_at_call 14; (with_reducible refine Calls.mono (own_any (· < W.heap.size) (.slice a1 bs.length c1) bs _ HX1.out.drew.b (by omega)) ?_); rintro e w2 ⟨v2, rfl, ho, hb⟩; obtain ⟨p2, n2, q2, rfl⟩ := Owned.isSlice ho; have HO2 : Hid (Owned w1.heap.size w2 (.slice p2 n2 q2) bs) := ho; have HB2 : Hid (Below w1.heap.size w1 w2) := below_of_drew hb; have HX2 := Lib.hid (HX1.out.next HB2.out); have hS2 := HX2.out.cells; clear ho hb)
    | (go_at_call 14; (with_reducible refine Calls.mono (own_any (· < W.heap.size) (.slice a body.length c) body _ HX2.out.f (by omega)) ?_); rintro e w3 ⟨v3, rfl, ho, hb⟩; obtain ⟨p3, n3, q3, rfl⟩ := Owned.isSlice ho; have HO3 := Lib.hid ho; have HB3 := Lib.hid hb; have HX3 := Lib.hid (HX2.out.next HB3.out); have hS3 := HX3.out.cells; clear ho hb)
    | (go_at_call 18; (with_reducible refine Calls.mono (fappend_any w1.heap.size (.slice p2 n2 q2) bs kind (fun k => w2.heap.size ≤ k) (.slice p3 n3 q3) body w3 (Nat.le_trans HB2.out.size HB3.out.size) (HO2.out.below HB3.out) HO3.out.bytesFrom (fun k hk e => by have := (Owned.lt HO2.out k e).2; omega) (by omega) (by omega)) ?_); rintro e w4 ⟨v4, rfl, ho, hg⟩; obtain ⟨p4, n4, q4, rfl⟩ := Owned.isSlice ho; have HO4 := Lib.hid ho; have HB4 : Hid (Below w1.heap.size w1 w4) := (HB2.out.trans (HB3.out.mono HB2.out.size)).trans (hg.below (Nat.le_trans HB2.out.size HB3.out.size) (fun k e => (Owned.lt HO2.out k e).1)); have HX4 := Lib.hid (HX1.out.next HB4.out); have hS4 := HX4.out.cells; clear ho hg))
  go_wp2_with fail
  clear hS1 hS2 hS3 hS4 HX1 HX2 HX3 HO2 HO3 HB2 HB3 HB4
  have hT4 : w4.drew.cell? ⟨W.heap.size, 0, none⟩ = some (.int .u8 (kind.toNat : Int)) ∧ w4.drew.cell? ⟨W.heap.size, 1, none⟩ = some (.slice a body.length c) := HX4.out.cells
  go_region_held3 (fun w' => w'.cell? ⟨W.heap.size, 0, none⟩ = some (.int .u8 (kind.toNat : Int)) ∧ w'.cell? ⟨W.heap.size, 1, none⟩ = some (.slice a body.length c)) (first | assumption | go_keep)
    (first
    | (go_at_call 14; (with_reducible refine Calls.mono (own_any (· < W.heap.size) (.slice a1 bs.length c1) bs _ HX4.out.drew.b (by omega)) ?_); rintro e w5 ⟨v5, rfl, ho, hb⟩; obtain ⟨p5, n5, q5, rfl⟩ := Owned.isSlice ho; have HO5 : Hid (Owned w4.heap.size w5 (.slice p5 n5 q5) bs) := ho; have HB5 : Hid (Below w4.heap.size w4 w5) := below_of_drew hb; have HX5 := Lib.hid (HX4.out.next HB5.out); have hS5 := HX5.out.cells; clear ho hb)
    | (go_at_call 22; (with_reducible refine Calls.mono (rappend_any w4.heap.size (.slice p5 n5 q5) bs kind (· < W.heap.size) (.slice a body.length c) body w5 HB5.out.size HO5.out HX5.out.f (fun k hk => Nat.lt_of_lt_of_le hk HX4.out.w.size) (by omega) (by omega)) ?_); rintro e w6 ⟨v6, rfl, ho, hg⟩; obtain ⟨p6, n6, q6, rfl⟩ := Owned.isSlice ho; have HO6 := Lib.hid ho; have HB6 : Hid (Below w4.heap.size w4 w6) := HB5.out.trans (hg.below HB5.out.size (fun k e => (Owned.lt HO5.out k e).1)); have HX6 := Lib.hid (HX4.out.next HB6.out); have hS6 := HX6.out.cells; clear ho hg))
  go_wp2_with fail
  clear hS5 hS6 hT4 HX4 HX5 HO5 HB5
  have HP6 : Hid (Bytes (fun _ => True) w6 (.slice p4 n4 q4) (bs ++ Fr.enc kind body)) := (HO4.out.bytes.below HB6.out).mono fun _ _ _ => trivial
  have HQ6 : Hid (Bytes (fun _ => True) w6 (.slice p6 n6 q6) (bs ++ Fr.enc kind body)) := HO6.out.bytes.mono fun _ _ _ => trivial
  clear HO4 HO6 HB6
  obtain ⟨R, hR⟩ : ∃ r, r = Fr.read row := ⟨_, rfl⟩
  obtain ⟨S, hS⟩ : ∃ r, r = Fr.row row := ⟨_, rfl⟩
  have HR0 := Lib.hid hR
  have HS0 := Lib.hid hS
  clear hR hS
  refine Calls.mono (own_any (· < W.heap.size) (.slice a2 row.length c2) row _ HX6.out.r (by omega)) ?_
  rintro e w7 ⟨v7, rfl, ho7, hb7⟩
  obtain ⟨p7, n7, q7, rfl⟩ := Owned.isSlice ho7
  have HO7 := Lib.hid ho7
  have HX7 := Lib.hid (HX6.out.next hb7)
  have HP7 := Lib.hid (HP6.out.below hb7)
  have HQ7 := Lib.hid (HQ6.out.below hb7)
  clear ho7 hb7 HX6 HP6 HQ6
  go_wp2_with fail
  refine Calls.mono (read_any _ (.slice p7 n7 q7) row _ HO7.out.bytes) ?_
  rw [← HR0.out]
  rintro e w8 ⟨v8, rfl, ho8, hb8⟩
  obtain ⟨p8, q8, rfl⟩ := ho8.isSlice
  have HO8 : Hid (Bytes (fun _ => True) w8 (.slice p8 R.1.body.length q8) R.1.body) := ho8.mono fun _ _ _ => trivial
  have HX8 := Lib.hid (HX7.out.next hb8)
  have HP8 := Lib.hid (HP7.out.below hb8)
  have HQ8 := Lib.hid (HQ7.out.below hb8)
  clear ho8 hb8 HX7 HP7 HQ7 HO7
  go_wp2_with fail
  refine calls_gen fun w9 hw9 => ?_
  have hb9 : Below w8.heap.size w8 w9 := by rw [hw9]; exact (Below.refl _ _).alloc (Nat.le_refl _) _
  have HK9 : Hid (Blk w9 w8.heap.size #[.int .u8 (R.1.kind.toNat : Int), .slice p8 R.1.body.length q8] 39) := by rw [hw9]; exact Blk.at_new rfl rfl
  have HO9 := Lib.hid (HO8.out.below hb9)
  have HX9 := Lib.hid (HX8.out.next hb9)
  have HP9 := Lib.hid (HP8.out.below hb9)
  have HQ9 := Lib.hid (HQ8.out.below hb9)
  generalize w8.heap.size = B8 at *
  clear hw9 hb9 HX8 HP8 HQ8 HO8
  refine Calls.mono (rread_any (· < W.heap.size) (.slice a2 row.length c2) row _ HX9.out.r (by omega)) ?_
  rw [← HR0.out]
  rintro e w10 ⟨v10, rfl, ho10, hb10⟩
  obtain ⟨p10, q10, rfl⟩ := ho10.isSlice
  have HO10 : Hid (Bytes (fun _ => True) w10 (.slice p10 R.1.body.length q10) R.1.body) := ho10.mono fun _ _ _ => trivial
  have HK10 := Lib.hid (HK9.out.below hb10 HK9.out.lt)
  have HO9 := Lib.hid (HO9.out.below hb10)
  have HX10 := Lib.hid (HX9.out.next hb10)
  have HP10 := Lib.hid (HP9.out.below hb10)
  have HQ10 := Lib.hid (HQ9.out.below hb10)
  clear ho10 hb10 HX9 HP9 HQ9 HK9
  go_wp2_with fail
  refine calls_gen fun w11 hw11 => ?_
  have hb11 : Below w10.heap.size w10 w11 := by rw [hw11]; exact (Below.refl _ _).alloc (Nat.le_refl _) _
  have HL11 : Hid (Blk w11 w10.heap.size #[.int .u8 (R.1.kind.toNat : Int), .slice p10 R.1.body.length q10] 39) := by rw [hw11]; exact Blk.at_new rfl rfl
  have HK11 := Lib.hid (HK10.out.below hb11 HK10.out.lt)
  have HO9 := Lib.hid (HO9.out.below hb11)
  have HO10 := Lib.hid (HO10.out.below hb11)
  have HX11 := Lib.hid (HX10.out.next hb11)
  have HP11 := Lib.hid (HP10.out.below hb11)
  have HQ11 := Lib.hid (HQ10.out.below hb11)
  generalize w10.heap.size = B10 at *
  clear hw11 hb11 HX10 HP10 HQ10 HK10
  refine Calls.mono (own_any (· < W.heap.size) (.slice a2 row.length c2) row _ HX11.out.r (by omega)) ?_
  rintro e w12 ⟨v12, rfl, ho12, hb12⟩
  obtain ⟨p12, n12, q12, rfl⟩ := Owned.isSlice ho12
  have HR12 := Lib.hid ho12
  have HL12 := Lib.hid (HL11.out.below hb12 HL11.out.lt)
  have HK12 := Lib.hid (HK11.out.below hb12 HK11.out.lt)
  have HO9 := Lib.hid (HO9.out.below hb12)
  have HO10 := Lib.hid (HO10.out.below hb12)
  have HX12 := Lib.hid (HX11.out.next hb12)
  have HP12 := Lib.hid (HP11.out.below hb12)
  have HQ12 := Lib.hid (HQ11.out.below hb12)
  clear ho12 hb12 HX11 HP11 HQ11 HK11 HL11
  go_wp2_with fail
  refine Calls.mono (row_any _ (.slice p12 n12 q12) row _ HR12.out.bytes (by omega)) ?_
  rw [← HS0.out]
  rintro e w13 ⟨v13, rfl, ho13, hb13⟩
  obtain ⟨p13, q13, rfl⟩ := ho13.frames.isSlice
  have HS13 : Hid (Frames _ w13 (.slice p13 S.1.length q13) S.1) := ho13.frames
  have HL13 := Lib.hid (HL12.out.below hb13 HL12.out.lt)
  have HK13 := Lib.hid (HK12.out.below hb13 HK12.out.lt)
  have HO9 := Lib.hid (HO9.out.below hb13)
  have HO10 := Lib.hid (HO10.out.below hb13)
  have HX13 := Lib.hid (HX12.out.next hb13)
  have HP13 := Lib.hid (HP12.out.below hb13)
  have HQ13 := Lib.hid (HQ12.out.below hb13)
  clear ho13 hb13 HX12 HP12 HQ12 HK12 HL12 HR12
  go_wp2_with fail
  refine Calls.mono (rrow_any (· < W.heap.size) (.slice a2 row.length c2) row _ HX13.out.r (by omega)) ?_
  rw [← HS0.out]
  rintro e w14 ⟨v14, rfl, ho14, hb14⟩
  obtain ⟨p14, q14, rfl⟩ := ho14.frames.isSlice
  have HT14 : Hid (Frames _ w14 (.slice p14 S.1.length q14) S.1) := ho14.frames
  have HS14 := Lib.hid (HS13.out.below hb14)
  have HL14 := Lib.hid (HL13.out.below hb14 HL13.out.lt)
  have HK14 := Lib.hid (HK13.out.below hb14 HK13.out.lt)
  have HO9 := Lib.hid (HO9.out.below hb14)
  have HO10 := Lib.hid (HO10.out.below hb14)
  have HX14 := Lib.hid (HX13.out.next hb14)
  have HP14 := Lib.hid (HP13.out.below hb14)
  have HQ14 := Lib.hid (HQ13.out.below hb14)
  clear ho14 hb14 HX13 HP13 HQ13 HK13 HL13 HS13
  go_wp2_with fail
  refine Calls.mono (kbytes_any _ _ _ _ _ _ _ HP14.out HQ14.out) ?_
  rintro e w15 ⟨rfl, n15, rfl⟩
  rw [decide_eq_true rfl]
  have HX15 := Lib.hid (HX14.out.drewN n15)
  have HT15 := Lib.hid (HT14.out.keep (w' := w14.drewN n15) fun _ _ _ => rfl)
  have HS15 := Lib.hid (HS14.out.keep (w' := w14.drewN n15) fun _ _ _ => rfl)
  have HL15 : Hid (Blk (w14.drewN n15) B10 #[.int .u8 (R.1.kind.toNat : Int), .slice p10 R.1.body.length q10] 39) := HL14.out
  have HK15 : Hid (Blk (w14.drewN n15) B8 #[.int .u8 (R.1.kind.toNat : Int), .slice p8 R.1.body.length q8] 39) := HK14.out
  have HO9 := Lib.hid (HO9.out.keep (w' := w14.drewN n15) fun _ _ _ => rfl)
  have HO10 := Lib.hid (HO10.out.keep (w' := w14.drewN n15) fun _ _ _ => rfl)
  clear HX14 HT14 HS14 HL14 HK14 HP14 HQ14
  generalize w14.drewN n15 = w15 at *
  have kk0 : w15.cell? ⟨B8, 0, none⟩ = some (.int .u8 (R.1.kind.toNat : Int)) := HK15.out.cell rfl
  have kk1 : w15.cell? ⟨B8, 1, none⟩ = some (.slice p8 R.1.body.length q8) := HK15.out.cell rfl
  have kl0 : w15.cell? ⟨B10, 0, none⟩ = some (.int .u8 (R.1.kind.toNat : Int)) := HL15.out.cell rfl
  have kl1 : w15.cell? ⟨B10, 1, none⟩ = some (.slice p10 R.1.body.length q10) := HL15.out.cell rfl
  go_wp2_with fail
  refine Calls.mono (kbytes_any _ _ _ _ _ _ _ HO9.out HO10.out) ?_
  rintro e w16 ⟨rfl, n16, rfl⟩
  rw [decide_eq_true rfl]
  have HX16 := Lib.hid (HX15.out.drewN n16)
  have HT16 := Lib.hid (HT15.out.keep (w' := w15.drewN n16) fun _ _ _ => rfl)
  have HS16 := Lib.hid (HS15.out.keep (w' := w15.drewN n16) fun _ _ _ => rfl)
  clear HX15 HT15 HS15 HL15 HK15 kk0 kk1 kl0 kl1 HO9 HO10
  generalize w15.drewN n16 = w16 at *
  have hSl : S.1.length ≤ 1000000 := by rw [HS0.out]; have := Fr.row_len row; omega
  go_wp2_with fail
  refine Calls.mono (kframes_any _ _ _ _ _ _ _ HS16.out HT16.out hSl) ?_
  rintro e w17 ⟨rfl, n17, rfl⟩
  rw [decide_eq_true rfl]
  have HX17 := Lib.hid (HX16.out.drewN n17)
  clear HX16 HT16 HS16
  generalize w16.drewN n17 = w17 at *
  go_wp2_with fail
  have hm0 : -1099511627776 < x.tmod 1099511627776 := by
    rcases Int.le_total 0 x with h | h
    · have := Int.tmod_nonneg 1099511627776 h; omega
    · have h' := Int.tmod_lt_of_pos (-x) (show (0 : Int) < 1099511627776 by decide)
      rw [Int.neg_tmod] at h'; omega
  have hm1 : x.tmod 1099511627776 < 1099511627776 := Int.tmod_lt_of_pos x (by decide)
  refine Calls.mono (fsize_any (x.tmod 1099511627776) _ (by omega) (by omega)) ?_
  rintro e w18 ⟨rfl, rfl⟩
  go_wp2_with fail
  refine Calls.mono (rsize_any (x.tmod 1099511627776) _ (by omega) (by omega)) ?_
  rintro e w18 ⟨rfl, rfl⟩
  generalize max 0 (x.tmod 1099511627776) + 12 = q at *
  go_wp2_with fail
  go_ret
  exact ⟨rfl, HX17.out.w⟩

theorem frameCalls_any (W : World) (kind : UInt8) (vf : Value) (body : List UInt8) (hf : Bytes (· < W.heap.size) W vf body) (vb : Value) (bs : List UInt8) (hb : Bytes (· < W.heap.size) W vb bs) (vr : Value) (row : List UInt8) (hr : Bytes (· < W.heap.size) W vr row) (x : Int) (hx0 : -9223372036854775808 ≤ x) (hx1 : x ≤ 9223372036854775807) :
    Calls Try.prog 7 #[.agg #[.int .u8 (kind.toNat : Int), vf], vb, vr, .int .i64 x] W fun e w' => e = .returned (.bool true) ∧ Below W.heap.size W w' := by
  by_cases h : 4000 < body.length ∨ 4000 < bs.length ∨ 4000 < row.length
  · exact frameCalls_early W kind vf body hf vb bs hb vr row hr x h
  · exact frameCalls_main W kind vf body hf vb bs hb vr row hr x hx0 hx1 (by omega) (by omega) (by omega)
end Go.Proofs.Ytkpbkhbgiijbiaa
