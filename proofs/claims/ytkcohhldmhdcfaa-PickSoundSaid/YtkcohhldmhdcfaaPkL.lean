/- Chapter 14's law: lives. -/
import Derived.Test.YtkcohhldmhdcfaaPkK
namespace Go.Proofs.Ytkcohhldmhdcfaa
open Go.RowKit

theorem files1 {w : World} {b : Nat} {f1 : Fil} {l1 m1 : Value} {T : TypeId} (hb : Blk w b (filCells f1 l1 m1).toArray T) (h1 : Bytes Any w l1 f1.least) (g1 : Bytes Any w m1 f1.most) (e1 : f1.wf) : Rw filK Any w (.slice (some ⟨b, 0, none⟩) 1 1) [f1] :=
  (rw_lit (K := filK) (F := Any) (n := 1) (xs := [f1]) hb ⟨⟨_, _, rfl, h1, g1, e1⟩, rfl⟩ rfl (by decide)).any
theorem files2 {w : World} {b : Nat} {f1 f2 : Fil} {l1 m1 l2 m2 : Value} {T : TypeId} (hb : Blk w b (filCells f1 l1 m1 ++ filCells f2 l2 m2).toArray T) (h1 : Bytes Any w l1 f1.least) (g1 : Bytes Any w m1 f1.most) (e1 : f1.wf) (h2 : Bytes Any w l2 f2.least) (g2 : Bytes Any w m2 f2.most) (e2 : f2.wf) : Rw filK Any w (.slice (some ⟨b, 0, none⟩) 2 2) [f1, f2] :=
  (rw_lit (K := filK) (F := Any) (n := 2) (xs := [f1, f2]) hb ⟨⟨_, _, rfl, h1, g1, e1⟩, ⟨_, _, rfl, h2, g2, e2⟩, rfl⟩ rfl (by decide)).any
theorem files3 {w : World} {b : Nat} {f1 f2 f3 : Fil} {l1 m1 l2 m2 l3 m3 : Value} {T : TypeId} (hb : Blk w b (filCells f1 l1 m1 ++ filCells f2 l2 m2 ++ filCells f3 l3 m3).toArray T) (h1 : Bytes Any w l1 f1.least) (g1 : Bytes Any w m1 f1.most) (e1 : f1.wf) (h2 : Bytes Any w l2 f2.least) (g2 : Bytes Any w m2 f2.most) (e2 : f2.wf) (h3 : Bytes Any w l3 f3.least) (g3 : Bytes Any w m3 f3.most) (e3 : f3.wf) : Rw filK Any w (.slice (some ⟨b, 0, none⟩) 3 3) [f1, f2, f3] :=
  (rw_lit (K := filK) (F := Any) (n := 3) (xs := [f1, f2, f3]) hb ⟨⟨_, _, rfl, h1, g1, e1⟩, ⟨_, _, rfl, h2, g2, e2⟩, ⟨_, _, rfl, h3, g3, e3⟩, rfl⟩ rfl (by decide)).any

set_option maxRecDepth 100000 in
set_option maxHeartbeats 16000000 in
theorem plives_any (w : World) :
    Calls Try.prog 9 #[] w fun x w' => x = .returned (.bool true) ∧ Below w.heap.size w w' := by
  have HB0 : Hid (Below w.heap.size w w) := Below.refl _ _
  go_enter Try.func9, Try.ntmps9
  go_wp2_with fail
  refine Calls.mono (pfile_any 1 9 [97] [99] w (by decide) (by decide) u64_1 i64_9) ?_
  rintro _ w1 ⟨vk, vv, rfl, hk, hv, hb⟩
  obtain ⟨ka0, kc0, rfl⟩ := hk.isSlice
  obtain ⟨va0, vc0, rfl⟩ := hv.isSlice
  have hk0 := hk.any
  have hv0 := hv.any
  clear hk hv
  have HB1 : Hid (Below w.heap.size w w1) := HB0.out.trans (hb.mono HB0.out.size)
  clear hb HB0
  unfold filCells lf
  go_wp2_with fail
  refine Calls.mono (pfile_any 2 9 [120] [122] w1 (by decide) (by decide) u64_2 i64_9) ?_
  rintro _ w2 ⟨vk, vv, rfl, hk, hv, hb⟩
  obtain ⟨ka1, kc1, rfl⟩ := hk.isSlice
  obtain ⟨va1, vc1, rfl⟩ := hv.isSlice
  have hk0 := hk0.below hb
  have hv0 := hv0.below hb
  have hk1 := hk.any
  have hv1 := hv.any
  clear hk hv
  have HB2 : Hid (Below w.heap.size w w2) := HB1.out.trans (hb.mono HB1.out.size)
  clear hb HB1
  unfold filCells lf
  go_wp2_with fail
  refine calls_gen fun w3 hw => ?_
  have hb : Below w2.heap.size w2 w3 := by rw [hw]; exact (Below.refl _ _).alloc (Nat.le_refl _) _
  have HR : Hid (Rw filK Any w3 (.slice (some ⟨w2.heap.size, 0, none⟩) 2 2) [p1, p2]) := files2 (T := 42) (b := w2.heap.size) (show Blk w3 _ (filCells p1 (.slice ka0 1 kc0) (.slice va0 1 vc0) ++ filCells p2 (.slice ka1 1 kc1) (.slice va1 1 vc1)).toArray _ from by rw [hw]; exact Blk.at_new rfl rfl) (hk0.below hb) (hv0.below hb) (wf_lf u64_1 i64_9) (hk1.below hb) (hv1.below hb) (wf_lf u64_2 i64_9)
  clear hw hk0 hv0 hk1 hv1
  generalize hfb : w2.heap.size = fb at HR ⊢
  clear hfb
  have HB3 : Hid (Below w.heap.size w w3) := HB2.out.trans (hb.mono HB2.out.size)
  clear hb HB2
  refine Calls.mono (pversion_any [p1, p2] [] _ _ w3 HR.out (Rw.nil _ _ _)) ?_
  rintro _ w4 ⟨lb, rfl, hl, hb⟩
  have HL := Lib.hid hl
  clear hl HR
  have HB4 : Hid (Below w.heap.size w w4) := HB3.out.trans (hb.mono HB3.out.size)
  clear hb HB3
  unfold verCells lv
  go_wp2_with fail
  refine Calls.mono (psetup_any w4) ?_
  rintro _ w5 ⟨rfl, hb⟩
  have HLn := Lib.hid (HL.out.below hb)
  clear HL
  have HB5 : Hid (Below w.heap.size w w5) := HB4.out.trans (hb.mono HB4.out.size)
  clear hb HB4
  unfold stpCells stp0
  go_wp2_with fail
  refine Calls.mono (next_ok (v := q1) (s := stp0) (i := 0) (nu := 1) (nl := 0) (b := jBot q1 0) ((nx_of chk_q1 stp0_ok worst_q1).1) ((nx_of chk_q1 stp0_ok worst_q1).2) up_q1 (by rw [lo_nil rfl]; rfl) rfl (.slice (some ⟨lb, 0, none⟩) 5 5) w5 HLn.out ⟨u64_9, u64_0, u64_0⟩ (by decide)) ?_
  rintro _ w6 ⟨a1_0, c1_0, a2_0, c2_0, a3_0, n3_0, c3_0, a4_0, n4_0, c4_0, rfl, hb⟩
  clear HLn
  have HB6 : Hid (Below w.heap.size w w6) := HB5.out.trans (hb.mono HB5.out.size)
  clear hb HB5
  go_wp2_with fail
  refine calls_gen fun w7 hw => ?_
  have hb : Below w6.heap.size w6 w7 := by rw [hw]; exact (Below.refl _ _).alloc (Nat.le_refl _) _
  have HJn : Hid (Blk w7 w6.heap.size #[.int .i64 0, .slice a1_0 1 c1_0, .slice a2_0 0 c2_0, .slice a3_0 n3_0 c3_0, .slice a4_0 n4_0 c4_0, .bool (jBot q1 0)] 36) := by rw [hw]; exact Blk.at_new rfl rfl
  clear hw
  generalize hjb0 : w6.heap.size = jb0 at HJn ⊢
  clear hjb0
  have HB7 : Hid (Below w.heap.size w w7) := HB6.out.trans (hb.mono HB6.out.size)
  clear hb HB6
  have HJ0_7 := HJn
  clear HJn
  refine Calls.mono (pfile_any 1 9 [97] [99] w7 (by decide) (by decide) u64_1 i64_9) ?_
  rintro _ w8 ⟨vk, vv, rfl, hk, hv, hb⟩
  obtain ⟨ka0, kc0, rfl⟩ := hk.isSlice
  obtain ⟨va0, vc0, rfl⟩ := hv.isSlice
  have hk0 := hk.any
  have hv0 := hv.any
  clear hk hv
  have HB8 : Hid (Below w.heap.size w w8) := HB7.out.trans (hb.mono HB7.out.size)
  have HJ0_8 := Lib.hid (HJ0_7.out.below hb HJ0_7.out.lt)
  clear hb HB7 HJ0_7
  unfold filCells lf
  go_wp2_with fail
  refine Calls.mono (pfile_any 2 9 [98] [100] w8 (by decide) (by decide) u64_2 i64_9) ?_
  rintro _ w9 ⟨vk, vv, rfl, hk, hv, hb⟩
  obtain ⟨ka1, kc1, rfl⟩ := hk.isSlice
  obtain ⟨va1, vc1, rfl⟩ := hv.isSlice
  have hk0 := hk0.below hb
  have hv0 := hv0.below hb
  have hk1 := hk.any
  have hv1 := hv.any
  clear hk hv
  have HB9 : Hid (Below w.heap.size w w9) := HB8.out.trans (hb.mono HB8.out.size)
  have HJ0_9 := Lib.hid (HJ0_8.out.below hb HJ0_8.out.lt)
  clear hb HB8 HJ0_8
  unfold filCells lf
  go_wp2_with fail
  refine Calls.mono (pfile_any 3 9 [100] [101] w9 (by decide) (by decide) u64_3 i64_9) ?_
  rintro _ w10 ⟨vk, vv, rfl, hk, hv, hb⟩
  obtain ⟨ka2, kc2, rfl⟩ := hk.isSlice
  obtain ⟨va2, vc2, rfl⟩ := hv.isSlice
  have hk0 := hk0.below hb
  have hv0 := hv0.below hb
  have hk1 := hk1.below hb
  have hv1 := hv1.below hb
  have hk2 := hk.any
  have hv2 := hv.any
  clear hk hv
  have HB10 : Hid (Below w.heap.size w w10) := HB9.out.trans (hb.mono HB9.out.size)
  have HJ0_10 := Lib.hid (HJ0_9.out.below hb HJ0_9.out.lt)
  clear hb HB9 HJ0_9
  unfold filCells lf
  go_wp2_with fail
  refine calls_gen fun w11 hw => ?_
  have hb : Below w10.heap.size w10 w11 := by rw [hw]; exact (Below.refl _ _).alloc (Nat.le_refl _) _
  have HR : Hid (Rw filK Any w11 (.slice (some ⟨w10.heap.size, 0, none⟩) 3 3) [p1, p3, p4]) := files3 (T := 42) (b := w10.heap.size) (show Blk w11 _ (filCells p1 (.slice ka0 1 kc0) (.slice va0 1 vc0) ++ filCells p3 (.slice ka1 1 kc1) (.slice va1 1 vc1) ++ filCells p4 (.slice ka2 1 kc2) (.slice va2 1 vc2)).toArray _ from by rw [hw]; exact Blk.at_new rfl rfl) (hk0.below hb) (hv0.below hb) (wf_lf u64_1 i64_9) (hk1.below hb) (hv1.below hb) (wf_lf u64_2 i64_9) (hk2.below hb) (hv2.below hb) (wf_lf u64_3 i64_9)
  clear hw hk0 hv0 hk1 hv1 hk2 hv2
  generalize hfb : w10.heap.size = fb at HR ⊢
  clear hfb
  have HB11 : Hid (Below w.heap.size w w11) := HB10.out.trans (hb.mono HB10.out.size)
  have HJ0_11 := Lib.hid (HJ0_10.out.below hb HJ0_10.out.lt)
  clear hb HB10 HJ0_10
  refine Calls.mono (pversion_any [p1, p3, p4] [] _ _ w11 HR.out (Rw.nil _ _ _)) ?_
  rintro _ w12 ⟨lb, rfl, hl, hb⟩
  have HL := Lib.hid hl
  clear hl HR
  have HB12 : Hid (Below w.heap.size w w12) := HB11.out.trans (hb.mono HB11.out.size)
  have HJ0_12 := Lib.hid (HJ0_11.out.below hb HJ0_11.out.lt)
  clear hb HB11 HJ0_11
  unfold verCells lv
  go_wp2_with fail
  refine Calls.mono (psetup_any w12) ?_
  rintro _ w13 ⟨rfl, hb⟩
  have HLn := Lib.hid (HL.out.below hb)
  clear HL
  have HB13 : Hid (Below w.heap.size w w13) := HB12.out.trans (hb.mono HB12.out.size)
  have HJ0_13 := Lib.hid (HJ0_12.out.below hb HJ0_12.out.lt)
  clear hb HB12 HJ0_12
  unfold stpCells stp0
  go_wp2_with fail
  refine Calls.mono (next_ok (v := q2) (s := stp0) (i := 0) (nu := 3) (nl := 0) (b := jBot q2 0) ((nx_of chk_q2 stp0_ok worst_q2).1) ((nx_of chk_q2 stp0_ok worst_q2).2) up_q2 (by rw [lo_nil rfl]; rfl) rfl (.slice (some ⟨lb, 0, none⟩) 5 5) w13 HLn.out ⟨u64_9, u64_0, u64_0⟩ (by decide)) ?_
  rintro _ w14 ⟨a1_1, c1_1, a2_1, c2_1, a3_1, n3_1, c3_1, a4_1, n4_1, c4_1, rfl, hb⟩
  clear HLn
  have HB14 : Hid (Below w.heap.size w w14) := HB13.out.trans (hb.mono HB13.out.size)
  have HJ0_14 := Lib.hid (HJ0_13.out.below hb HJ0_13.out.lt)
  clear hb HB13 HJ0_13
  go_wp2_with fail
  refine calls_gen fun w15 hw => ?_
  have hb : Below w14.heap.size w14 w15 := by rw [hw]; exact (Below.refl _ _).alloc (Nat.le_refl _) _
  have HJn : Hid (Blk w15 w14.heap.size #[.int .i64 0, .slice a1_1 3 c1_1, .slice a2_1 0 c2_1, .slice a3_1 n3_1 c3_1, .slice a4_1 n4_1 c4_1, .bool (jBot q2 0)] 36) := by rw [hw]; exact Blk.at_new rfl rfl
  clear hw
  generalize hjb1 : w14.heap.size = jb1 at HJn ⊢
  clear hjb1
  have HB15 : Hid (Below w.heap.size w w15) := HB14.out.trans (hb.mono HB14.out.size)
  have HJ0_15 := Lib.hid (HJ0_14.out.below hb HJ0_14.out.lt)
  clear hb HB14 HJ0_14
  have HJ1_15 := HJn
  clear HJn
  refine Calls.mono (pfile_any 1 250 [97] [98] w15 (by decide) (by decide) u64_1 i64_250) ?_
  rintro _ w16 ⟨vk, vv, rfl, hk, hv, hb⟩
  obtain ⟨ka0, kc0, rfl⟩ := hk.isSlice
  obtain ⟨va0, vc0, rfl⟩ := hv.isSlice
  have hk0 := hk.any
  have hv0 := hv.any
  clear hk hv
  have HB16 : Hid (Below w.heap.size w w16) := HB15.out.trans (hb.mono HB15.out.size)
  have HJ0_16 := Lib.hid (HJ0_15.out.below hb HJ0_15.out.lt)
  have HJ1_16 := Lib.hid (HJ1_15.out.below hb HJ1_15.out.lt)
  clear hb HB15 HJ0_15 HJ1_15
  unfold filCells lf
  go_wp2_with fail
  refine calls_gen fun w17 hw => ?_
  have hb : Below w16.heap.size w16 w17 := by rw [hw]; exact (Below.refl _ _).alloc (Nat.le_refl _) _
  have HR : Hid (Rw filK Any w17 (.slice (some ⟨w16.heap.size, 0, none⟩) 1 1) [p5]) := files1 (T := 42) (b := w16.heap.size) (show Blk w17 _ (filCells p5 (.slice ka0 1 kc0) (.slice va0 1 vc0)).toArray _ from by rw [hw]; exact Blk.at_new rfl rfl) (hk0.below hb) (hv0.below hb) (wf_lf u64_1 i64_250)
  clear hw hk0 hv0
  generalize hfb : w16.heap.size = fb at HR ⊢
  clear hfb
  have HB17 : Hid (Below w.heap.size w w17) := HB16.out.trans (hb.mono HB16.out.size)
  have HJ0_17 := Lib.hid (HJ0_16.out.below hb HJ0_16.out.lt)
  have HJ1_17 := Lib.hid (HJ1_16.out.below hb HJ1_16.out.lt)
  clear hb HB16 HJ0_16 HJ1_16
  refine Calls.mono (pversion_any [] [p5] _ _ w17 (Rw.nil _ _ _) HR.out) ?_
  rintro _ w18 ⟨lb, rfl, hl, hb⟩
  have HL := Lib.hid hl
  clear hl HR
  have HB18 : Hid (Below w.heap.size w w18) := HB17.out.trans (hb.mono HB17.out.size)
  have HJ0_18 := Lib.hid (HJ0_17.out.below hb HJ0_17.out.lt)
  have HJ1_18 := Lib.hid (HJ1_17.out.below hb HJ1_17.out.lt)
  clear hb HB17 HJ0_17 HJ1_17
  unfold verCells lv
  go_wp2_with fail
  refine Calls.mono (psetup_any w18) ?_
  rintro _ w19 ⟨rfl, hb⟩
  have HLn := Lib.hid (HL.out.below hb)
  clear HL
  have HB19 : Hid (Below w.heap.size w w19) := HB18.out.trans (hb.mono HB18.out.size)
  have HJ0_19 := Lib.hid (HJ0_18.out.below hb HJ0_18.out.lt)
  have HJ1_19 := Lib.hid (HJ1_18.out.below hb HJ1_18.out.lt)
  clear hb HB18 HJ0_18 HJ1_18
  unfold stpCells stp0
  go_wp2_with fail
  refine Calls.mono (next_ok (v := q3) (s := stp0) (i := 1) (nu := 1) (nl := 0) (b := true) ((nx_of chk_q3 stp0_ok worst_q3).1) ((nx_of chk_q3 stp0_ok worst_q3).2) rfl (by rw [lo_nil rfl]; rfl) bot_q3 (.slice (some ⟨lb, 0, none⟩) 5 5) w19 HLn.out ⟨u64_9, u64_0, u64_0⟩ (by decide)) ?_
  rintro _ w20 ⟨a1_2, c1_2, a2_2, c2_2, a3_2, n3_2, c3_2, a4_2, n4_2, c4_2, rfl, hb⟩
  clear HLn
  have HB20 : Hid (Below w.heap.size w w20) := HB19.out.trans (hb.mono HB19.out.size)
  have HJ0_20 := Lib.hid (HJ0_19.out.below hb HJ0_19.out.lt)
  have HJ1_20 := Lib.hid (HJ1_19.out.below hb HJ1_19.out.lt)
  clear hb HB19 HJ0_19 HJ1_19
  go_wp2_with fail
  refine calls_gen fun w21 hw => ?_
  have hb : Below w20.heap.size w20 w21 := by rw [hw]; exact (Below.refl _ _).alloc (Nat.le_refl _) _
  have HJn : Hid (Blk w21 w20.heap.size #[.int .i64 1, .slice a1_2 1 c1_2, .slice a2_2 0 c2_2, .slice a3_2 n3_2 c3_2, .slice a4_2 n4_2 c4_2, .bool true] 36) := by rw [hw]; exact Blk.at_new rfl rfl
  clear hw
  generalize hjb2 : w20.heap.size = jb2 at HJn ⊢
  clear hjb2
  have HB21 : Hid (Below w.heap.size w w21) := HB20.out.trans (hb.mono HB20.out.size)
  have HJ0_21 := Lib.hid (HJ0_20.out.below hb HJ0_20.out.lt)
  have HJ1_21 := Lib.hid (HJ1_20.out.below hb HJ1_20.out.lt)
  clear hb HB20 HJ0_20 HJ1_20
  have HJ2_21 := HJn
  clear HJn
  refine Calls.mono (pfile_any 1 99 [97] [98] w21 (by decide) (by decide) u64_1 i64_99) ?_
  rintro _ w22 ⟨vk, vv, rfl, hk, hv, hb⟩
  obtain ⟨ka0, kc0, rfl⟩ := hk.isSlice
  obtain ⟨va0, vc0, rfl⟩ := hv.isSlice
  have hk0 := hk.any
  have hv0 := hv.any
  clear hk hv
  have HB22 : Hid (Below w.heap.size w w22) := HB21.out.trans (hb.mono HB21.out.size)
  have HJ0_22 := Lib.hid (HJ0_21.out.below hb HJ0_21.out.lt)
  have HJ1_22 := Lib.hid (HJ1_21.out.below hb HJ1_21.out.lt)
  have HJ2_22 := Lib.hid (HJ2_21.out.below hb HJ2_21.out.lt)
  clear hb HB21 HJ0_21 HJ1_21 HJ2_21
  unfold filCells lf
  go_wp2_with fail
  refine calls_gen fun w23 hw => ?_
  have hb : Below w22.heap.size w22 w23 := by rw [hw]; exact (Below.refl _ _).alloc (Nat.le_refl _) _
  have HR : Hid (Rw filK Any w23 (.slice (some ⟨w22.heap.size, 0, none⟩) 1 1) [p6]) := files1 (T := 42) (b := w22.heap.size) (show Blk w23 _ (filCells p6 (.slice ka0 1 kc0) (.slice va0 1 vc0)).toArray _ from by rw [hw]; exact Blk.at_new rfl rfl) (hk0.below hb) (hv0.below hb) (wf_lf u64_1 i64_99)
  clear hw hk0 hv0
  generalize hfb : w22.heap.size = fb at HR ⊢
  clear hfb
  have HB23 : Hid (Below w.heap.size w w23) := HB22.out.trans (hb.mono HB22.out.size)
  have HJ0_23 := Lib.hid (HJ0_22.out.below hb HJ0_22.out.lt)
  have HJ1_23 := Lib.hid (HJ1_22.out.below hb HJ1_22.out.lt)
  have HJ2_23 := Lib.hid (HJ2_22.out.below hb HJ2_22.out.lt)
  clear hb HB22 HJ0_22 HJ1_22 HJ2_22
  refine Calls.mono (pversion_any [] [p6] _ _ w23 (Rw.nil _ _ _) HR.out) ?_
  rintro _ w24 ⟨lb, rfl, hl, hb⟩
  have HL := Lib.hid hl
  clear hl HR
  have HB24 : Hid (Below w.heap.size w w24) := HB23.out.trans (hb.mono HB23.out.size)
  have HJ0_24 := Lib.hid (HJ0_23.out.below hb HJ0_23.out.lt)
  have HJ1_24 := Lib.hid (HJ1_23.out.below hb HJ1_23.out.lt)
  have HJ2_24 := Lib.hid (HJ2_23.out.below hb HJ2_23.out.lt)
  clear hb HB23 HJ0_23 HJ1_23 HJ2_23
  unfold verCells lv
  go_wp2_with fail
  refine Calls.mono (psetup_any w24) ?_
  rintro _ w25 ⟨rfl, hb⟩
  have HLn := Lib.hid (HL.out.below hb)
  clear HL
  have HB25 : Hid (Below w.heap.size w w25) := HB24.out.trans (hb.mono HB24.out.size)
  have HJ0_25 := Lib.hid (HJ0_24.out.below hb HJ0_24.out.lt)
  have HJ1_25 := Lib.hid (HJ1_24.out.below hb HJ1_24.out.lt)
  have HJ2_25 := Lib.hid (HJ2_24.out.below hb HJ2_24.out.lt)
  clear hb HB24 HJ0_24 HJ1_24 HJ2_24
  unfold stpCells stp0
  go_wp2_with fail
  refine Calls.mono (next_no (v := q4) (s := stp0) 6 ((nx_of chk_q4 stp0_ok worst_q4).1) (by decide) (.slice (some ⟨lb, 0, none⟩) 5 5) w25 HLn.out ⟨u64_9, u64_0, u64_0⟩ (by decide)) ?_
  rintro _ w26 ⟨rfl, hb⟩
  clear HLn
  have HB26 : Hid (Below w.heap.size w w26) := HB25.out.trans (hb.mono HB25.out.size)
  have HJ0_26 := Lib.hid (HJ0_25.out.below hb HJ0_25.out.lt)
  have HJ1_26 := Lib.hid (HJ1_25.out.below hb HJ1_25.out.lt)
  have HJ2_26 := Lib.hid (HJ2_25.out.below hb HJ2_25.out.lt)
  clear hb HB25 HJ0_25 HJ1_25 HJ2_25
  unfold job0 jobC
  go_upto_region 5 with fail
  refine wp_gen fun w27 hw => ?_
  have hb : Below w26.heap.size w26 w27 := by rw [hw]; exact (Below.refl _ _).alloc (Nat.le_refl _) _
  clear hw
  have HB27 : Hid (Below w.heap.size w w27) := HB26.out.trans (hb.mono HB26.out.size)
  have HJ0_27 := Lib.hid (HJ0_26.out.below hb HJ0_26.out.lt)
  have HJ1_27 := Lib.hid (HJ1_26.out.below hb HJ1_26.out.lt)
  have HJ2_27 := Lib.hid (HJ2_26.out.below hb HJ2_26.out.lt)
  clear hb HB26 HJ0_26 HJ1_26 HJ2_26
  have x1 : w27.cell? ⟨jb0, 1, none⟩ = some (.slice a1_0 1 c1_0) := HJ0_27.out.cell rfl
  have x2 : w27.cell? ⟨jb0, 2, none⟩ = some (.slice a2_0 0 c2_0) := HJ0_27.out.cell rfl
  have y1 : w27.cell? ⟨jb1, 1, none⟩ = some (.slice a1_1 3 c1_1) := HJ1_27.out.cell rfl
  have z0 : w27.cell? ⟨jb2, 0, none⟩ = some (.int .i64 1) := HJ2_27.out.cell rfl
  have z5 : w27.cell? ⟨jb2, 5, none⟩ = some (.bool true) := HJ2_27.out.cell rfl
  go_wp2_with fail
  go_ret
  exact ⟨rfl, HB27.out⟩
end Go.Proofs.Ytkcohhldmhdcfaa
