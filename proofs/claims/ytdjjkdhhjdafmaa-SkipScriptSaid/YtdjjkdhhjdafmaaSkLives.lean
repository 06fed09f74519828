/- Chapter 7's law: lives. -/
import Derived.Test.YtdjjkdhhjdafmaaSkH
namespace Go.Proofs.Ytdjjkdhhjdafmaa
open Go.RowKit

def le1 : Ent := ⟨[97], 1, 1, [120]⟩
def le2 : Ent := ⟨[97], 3, 1, [121]⟩
def le3 : Ent := ⟨[97], 3, 1, [122]⟩
def lt1 (X : Nat) : List Tw := [⟨X, le1, 1⟩]
def lt2 (X Y : Nat) : List Tw := [⟨Y, le2, 2⟩, ⟨X, le1, 1⟩]

theorem ins_one {c : Nat} {ts' : List Tw} (h : InsSays le1 1 [] c ts') : c = 0 ∧ ∃ X, ts' = lt1 X := by
  have h0 : le1.chk = 0 := by decide
  rcases h with ⟨h1, _⟩ | ⟨_, h1, _⟩ | ⟨_, _, _, h1, _⟩ | ⟨_, _, _, _, h1, X, h2⟩
  · exact absurd h0 h1
  · omega
  · exact absurd rfl h1
  · exact ⟨h1, X, h2⟩
theorem ins_two {X c : Nat} {ts' : List Tw} (h : InsSays le2 2 (lt1 X) c ts') : c = 0 ∧ ∃ Y, ts' = lt2 X Y := by
  have h0 : le2.chk = 0 := by decide
  have hf : found le2 (lt1 X) = none := by kernel_rfl
  rcases h with ⟨h1, _⟩ | ⟨_, h1, _⟩ | ⟨_, _, _, h1, _⟩ | ⟨_, _, _, _, h1, Y, h2⟩
  · exact absurd h0 h1
  · omega
  · exact absurd hf h1
  · refine ⟨h1, Y, h2.trans ?_⟩
    kernel_rfl
theorem ins_three {X Y c : Nat} {ts' : List Tw} (h : InsSays le3 2 (lt2 X Y) c ts') : c = 5 ∧ ts' = lt2 X Y := by
  have h0 : le3.chk = 0 := by decide
  have hf : found le3 (lt2 X Y) = some ⟨Y, le2, 2⟩ := by kernel_rfl
  rcases h with ⟨h1, _⟩ | ⟨_, h1, _⟩ | ⟨_, _, _, _, h1, h2⟩ | ⟨_, _, _, h1, _⟩
  · exact absurd h0 h1
  · omega
  · exact ⟨h1, h2⟩
  · rw [hf] at h1; cases h1
theorem get_two (X Y : Nat) : getOf [97] 2 (lt2 X Y) = some le1 := by kernel_rfl
theorem get_nine (X Y : Nat) : getOf [97] 9 (lt2 X Y) = some le2 := by kernel_rfl
theorem get_zero (X Y : Nat) : getOf [97] 0 (lt2 X Y) = none := by kernel_rfl
theorem size_two (X Y : Nat) : sizeOf_ (lt2 X Y) = 68 := by kernel_rfl
theorem height_two (X Y : Nat) : heightOf (plc [97] 3) (lt2 X Y) = 2 := by kernel_rfl

theorem Wrote.low {lo : Lo} {b : Nat} {hd : Tw} {ts : List Tw} {w0 w w' : World} (h : Wrote (fun k => k = b ∨ ∃ t ∈ hd :: ts, t.b = k) w w') (hs : Skp lo w b hd ts) (hb : Below lo.a w0 w) : Below lo.a w0 w' :=
  hb.trans (h.below hs.lo_le fun k hk => by
    rcases hk with rfl | ⟨t, ht, rfl⟩
    · exact hs.l1
    · exact hs.l2 t ht)

set_option maxRecDepth 100000 in
set_option maxHeartbeats 4000000 in
theorem skLives_any (w : World) :
    Calls Try.prog 7 #[] w fun x w' => x = .returned (.bool true) ∧ Below w.heap.size w w' := by
  have hcc := conv_const
  go_enter Try.func7, Try.ntmps7
  go_wp2_with fail
  refine Calls.mono (skNew_any w) ?_
  rintro _ w1 ⟨b, hd, rfl, hs1, hb1⟩
  have HS1 := Lib.hid (hs1 (fun k => w.heap.size ≤ k) fun k hk => Nat.le_trans hb1.size hk)
  have HW1 := Lib.hid hb1
  clear hs1 hb1
  go_wp2_with fail
  refine Calls.mono (entry_any [97] [120] 1 w1 (by decide) (by decide)) ?_
  rintro _ w2 ⟨vk, vv, rfl, hk2, hv2, hb2⟩
  have HS2 := Lib.hid (HS1.out.below hb2)
  have HW2 : Hid (Below w.heap.size w w2) := HW1.out.trans (hb2.mono HW1.out.size)
  have HK2 := Lib.hid hk2
  have HV2 := Lib.hid hv2
  clear hk2 hv2 hb2 HS1 HW1
  go_wp2_with fail
  refine Calls.mono (insert_any _ b hd [] _ _ le1 vk vv 1 w2 HS2.out HK2.out HV2.out (by decide)) ?_
  rintro _ w3 ⟨c, ts', rfl, hs3, hw3, hi3⟩
  obtain ⟨rfl, X, rfl⟩ := ins_one hi3.1
  have HS3 := Lib.hid hs3
  have HW3 : Hid (Below w.heap.size w w3) := hw3.low HS2.out HW2.out
  clear hs3 hw3 hi3 HS2 HW2 HK2 HV2
  go_wp2_with fail
  refine Calls.mono (entry_any [97] [121] 3 w3 (by decide) (by decide)) ?_
  rintro _ w4 ⟨vk, vv, rfl, hk4, hv4, hb4⟩
  have HS4 := Lib.hid (HS3.out.below hb4)
  have HW4 : Hid (Below w.heap.size w w4) := HW3.out.trans (hb4.mono HW3.out.size)
  have HK4 := Lib.hid hk4
  have HV4 := Lib.hid hv4
  clear hk4 hv4 hb4 HS3 HW3
  go_wp2_with fail
  refine Calls.mono (insert_any _ b hd (lt1 X) _ _ le2 vk vv 2 w4 HS4.out HK4.out HV4.out (by show 1 < 1000000; decide)) ?_
  rintro _ w5 ⟨c, ts', rfl, hs5, hw5, hi5⟩
  obtain ⟨rfl, Y, rfl⟩ := ins_two hi5.1
  have HS5 := Lib.hid hs5
  have HW5 : Hid (Below w.heap.size w w5) := hw5.low HS4.out HW4.out
  clear hs5 hw5 hi5 HS4 HW4 HK4 HV4
  go_wp2_with fail
  refine Calls.mono (entry_any [97] [122] 3 w5 (by decide) (by decide)) ?_
  rintro _ w6 ⟨vk, vv, rfl, hk6, hv6, hb6⟩
  have HS6 := Lib.hid (HS5.out.below hb6)
  have HW6 : Hid (Below w.heap.size w w6) := HW5.out.trans (hb6.mono HW5.out.size)
  have HK6 := Lib.hid hk6
  have HV6 := Lib.hid hv6
  clear hk6 hv6 hb6 HS5 HW5
  go_wp2_with fail
  refine Calls.mono (insert_any _ b hd (lt2 X Y) _ _ le3 vk vv 2 w6 HS6.out HK6.out HV6.out (by show 2 < 1000000; decide)) ?_
  rintro _ w7 ⟨c, ts', rfl, hs7, hw7, hi7⟩
  obtain ⟨rfl, rfl⟩ := ins_three hi7.1
  have HSw7 := Lib.hid hs7
  have HWw7 : Hid (Below w.heap.size w w7) := hw7.low HS6.out HW6.out
  clear hs7 hw7 hi7 HS6 HW6 HK6 HV6
  go_wp2_with fail
  refine calls_gen fun wa1 hwa1 => ?_
  have HBwa1 : Hid (Below w7.heap.size w7 wa1) := by rw [hwa1]; exact (Below.refl _ _).alloc (Nat.le_refl _) _
  have HLwa1 : Hid (Bytes (fun k => k = w7.heap.size) wa1 (.slice (some ⟨w7.heap.size, 0, none⟩) 1 1) [97]) := by rw [hwa1]; exact Bytes.const w7 [97] 1 _ _ _ rfl rfl (by decide)
  clear hwa1
  have HSwa1 := Lib.hid (HSw7.out.below HBwa1.out)
  have hg : Calls Try.prog 17 #[.pointer (some ⟨b, 0, none⟩), .slice (some ⟨w7.heap.size, 0, none⟩) 1 1, .int .u64 2] wa1 (EntPost wa1 le1 (.int .i64 0)) := by
    have h := skGet_any _ b hd (lt2 X Y) _ [97] 2 (.slice (some ⟨w7.heap.size, 0, none⟩) 1 1) wa1 HSwa1.out HLwa1.out
    rw [get_two] at h
    exact h
  refine Calls.mono hg ?_
  clear hg
  rintro _ wb1 ⟨vk, vv, rfl, hk, hv, hb⟩
  obtain ⟨ka1, kc1, rfl⟩ := hk.isSlice
  obtain ⟨va1, vc1, rfl⟩ := hv.isSlice
  have HBwb1 : Hid (Below w7.heap.size w7 wb1) := HBwa1.out.trans (hb.mono HBwa1.out.size)
  have HVwb1 := Lib.hid hv
  clear hk hv hb
  unfold entCells
  go_upto_region 5 with fail
  refine wp_gen fun wc1 hwc1 => ?_
  have HCwc1 : Hid (Below wb1.heap.size wb1 wc1) := by rw [hwc1]; exact (Below.refl _ _).alloc (Nat.le_refl _) _
  have HX1 : Hid (Blk wc1 wb1.heap.size (entCells le1 (.slice ka1 le1.key.length kc1) (.slice va1 le1.value.length vc1)).toArray 34) := by rw [hwc1]; exact Blk.at_new rfl rfl
  clear hwc1
  have HBwc1 : Hid (Below w7.heap.size w7 wc1) := HBwb1.out.trans (HCwc1.out.mono HBwb1.out.size)
  have HV1 := Lib.hid (HVwb1.out.below HCwc1.out)
  have HSwc1 := Lib.hid (HSw7.out.below HBwc1.out)
  have HWwc1 : Hid (Below w.heap.size w wc1) := HWw7.out.trans (HBwc1.out.mono HWw7.out.size)
  clear HBwa1 HLwa1 HSwa1 HBwb1 HVwb1 HCwc1 HBwc1 HSw7 HWw7
  generalize wb1.heap.size = z1 at *
  go_wp2_with fail
  refine calls_gen fun wa2 hwa2 => ?_
  have HBwa2 : Hid (Below wc1.heap.size wc1 wa2) := by rw [hwa2]; exact (Below.refl _ _).alloc (Nat.le_refl _) _
  have HLwa2 : Hid (Bytes (fun k => k = wc1.heap.size) wa2 (.slice (some ⟨wc1.heap.size, 0, none⟩) 1 1) [97]) := by rw [hwa2]; exact Bytes.const wc1 [97] 1 _ _ _ rfl rfl (by decide)
  clear hwa2
  have HSwa2 := Lib.hid (HSwc1.out.below HBwa2.out)
  have hg : Calls Try.prog 17 #[.pointer (some ⟨b, 0, none⟩), .slice (some ⟨wc1.heap.size, 0, none⟩) 1 1, .int .u64 9] wa2 (EntPost wa2 le2 (.int .i64 0)) := by
    have h := skGet_any _ b hd (lt2 X Y) _ [97] 9 (.slice (some ⟨wc1.heap.size, 0, none⟩) 1 1) wa2 HSwa2.out HLwa2.out
    rw [get_nine] at h
    exact h
  refine Calls.mono hg ?_
  clear hg
  rintro _ wb2 ⟨vk, vv, rfl, hk, hv, hb⟩
  obtain ⟨ka2, kc2, rfl⟩ := hk.isSlice
  obtain ⟨va2, vc2, rfl⟩ := hv.isSlice
  have HBwb2 : Hid (Below wc1.heap.size wc1 wb2) := HBwa2.out.trans (hb.mono HBwa2.out.size)
  have HVwb2 := Lib.hid hv
  clear hk hv hb
  unfold entCells
  go_upto_region 6 with fail
  refine wp_gen fun wc2 hwc2 => ?_
  have HCwc2 : Hid (Below wb2.heap.size wb2 wc2) := by rw [hwc2]; exact (Below.refl _ _).alloc (Nat.le_refl _) _
  have HX2 : Hid (Blk wc2 wb2.heap.size (entCells le2 (.slice ka2 le2.key.length kc2) (.slice va2 le2.value.length vc2)).toArray 34) := by rw [hwc2]; exact Blk.at_new rfl rfl
  clear hwc2
  have HBwc2 : Hid (Below wc1.heap.size wc1 wc2) := HBwb2.out.trans (HCwc2.out.mono HBwb2.out.size)
  have HV2 := Lib.hid (HVwb2.out.below HCwc2.out)
  have HSwc2 := Lib.hid (HSwc1.out.below HBwc2.out)
  have HWwc2 : Hid (Below w.heap.size w wc2) := HWwc1.out.trans (HBwc2.out.mono HWwc1.out.size)
  have HX1 := Lib.hid (HX1.out.below HBwc2.out HX1.out.lt)
  have HV1 := Lib.hid (HV1.out.below HBwc2.out)
  clear HBwa2 HLwa2 HSwa2 HBwb2 HVwb2 HCwc2 HBwc2 HSwc1 HWwc1
  generalize wb2.heap.size = z2 at *
  go_wp2_with fail
  refine calls_gen fun wa3 hwa3 => ?_
  have HBwa3 : Hid (Below wc2.heap.size wc2 wa3) := by rw [hwa3]; exact (Below.refl _ _).alloc (Nat.le_refl _) _
  have HLwa3 : Hid (Bytes (fun k => k = wc2.heap.size) wa3 (.slice (some ⟨wc2.heap.size, 0, none⟩) 1 1) [97]) := by rw [hwa3]; exact Bytes.const wc2 [97] 1 _ _ _ rfl rfl (by decide)
  clear hwa3
  have HSwa3 := Lib.hid (HSwc2.out.below HBwa3.out)
  have hg : Calls Try.prog 17 #[.pointer (some ⟨b, 0, none⟩), .slice (some ⟨wc2.heap.size, 0, none⟩) 1 1, .int .u64 0] wa3 (EntPost wa3 noEnt (.int .i64 6)) := by
    have h := skGet_any _ b hd (lt2 X Y) _ [97] 0 (.slice (some ⟨wc2.heap.size, 0, none⟩) 1 1) wa3 HSwa3.out HLwa3.out
    rw [get_zero] at h
    exact h
  refine Calls.mono hg ?_
  clear hg
  rintro _ wb3 ⟨vk, vv, rfl, hk, hv, hb⟩
  obtain ⟨ka3, kc3, rfl⟩ := hk.isSlice
  obtain ⟨va3, vc3, rfl⟩ := hv.isSlice
  have HBwb3 : Hid (Below wc2.heap.size wc2 wb3) := HBwa3.out.trans (hb.mono HBwa3.out.size)
  have HVwb3 := Lib.hid hv
  clear hk hv hb
  unfold entCells
  go_upto_region 7 with fail
  refine wp_gen fun wc3 hwc3 => ?_
  have HCwc3 : Hid (Below wb3.heap.size wb3 wc3) := by rw [hwc3]; exact (Below.refl _ _).alloc (Nat.le_refl _) _
  have HX3 : Hid (Blk wc3 wb3.heap.size (entCells noEnt (.slice ka3 noEnt.key.length kc3) (.slice va3 noEnt.value.length vc3)).toArray 34) := by rw [hwc3]; exact Blk.at_new rfl rfl
  clear hwc3
  have HBwc3 : Hid (Below wc2.heap.size wc2 wc3) := HBwb3.out.trans (HCwc3.out.mono HBwb3.out.size)
  have HV3 := Lib.hid (HVwb3.out.below HCwc3.out)
  have HSwc3 := Lib.hid (HSwc2.out.below HBwc3.out)
  have HWwc3 : Hid (Below w.heap.size w wc3) := HWwc2.out.trans (HBwc3.out.mono HWwc2.out.size)
  have HX1 := Lib.hid (HX1.out.below HBwc3.out HX1.out.lt)
  have HV1 := Lib.hid (HV1.out.below HBwc3.out)
  have HX2 := Lib.hid (HX2.out.below HBwc3.out HX2.out.lt)
  have HV2 := Lib.hid (HV2.out.below HBwc3.out)
  clear HBwa3 HLwa3 HSwa3 HBwb3 HVwb3 HCwc3 HBwc3 HSwc2 HWwc2
  generalize wb3.heap.size = z3 at *
  have c1 : wc3.cell? ⟨z1, 3, none⟩ = some (.slice va1 le1.value.length vc1) := HX1.out.cell rfl
  have c2 : wc3.cell? ⟨z2, 3, none⟩ = some (.slice va2 le2.value.length vc2) := HX2.out.cell rfl
  have t1 : (convert 31 9 (.slice va1 le1.value.length vc1)).run Try.prog wc3 = .ok (.string ⟨#[120]⟩) wc3 := HV1.out.textAny
  have t2 : (convert 31 9 (.slice va2 le2.value.length vc2)).run Try.prog wc3 = .ok (.string ⟨#[121]⟩) wc3 := HV2.out.textAny
  go_wp2_with fail
  refine Calls.mono (skSize_any _ b hd (lt2 X Y) wc3 HSwc3.out) ?_
  rw [size_two]
  rintro _ wd ⟨rfl, rfl⟩
  clear c1 c2 t1 t2
  go_wp2_with fail
  refine calls_gen fun we hwe => ?_
  have HBe : Hid (Below wd.heap.size wd we) := by rw [hwe]; exact (Below.refl _ _).alloc (Nat.le_refl _) _
  have HLe : Hid (Bytes (fun k => k = wd.heap.size) we (.slice (some ⟨wd.heap.size, 0, none⟩) 1 1) [97]) := by rw [hwe]; exact Bytes.const wd [97] 1 _ _ _ rfl rfl (by decide)
  clear hwe
  refine Calls.mono (skHeight_any _ b hd (lt2 X Y) _ [97] 3 (.slice (some ⟨wd.heap.size, 0, none⟩) 1 1) we (HSwc3.out.below HBe.out) HLe.out) ?_
  rw [height_two]
  rintro _ wf ⟨rfl, hbf⟩
  have HWf : Hid (Below w.heap.size w wf) := (HWwc3.out.trans (HBe.out.mono HWwc3.out.size)).trans (hbf.mono (Nat.le_trans HWwc3.out.size HBe.out.size))
  clear hbf
  go_wp2_with fail
  go_ret
  exact ⟨rfl, HWf.out⟩
end Go.Proofs.Ytdjjkdhhjdafmaa
