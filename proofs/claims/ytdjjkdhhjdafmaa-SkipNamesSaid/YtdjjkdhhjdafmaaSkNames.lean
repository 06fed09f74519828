/- The law SkipNames: its walk. -/
import Derived.Test.YtdjjkdhhjdafmaaSkLives
import Derived.Test.YtdjjkdhhjdafmaaSkSeek
import Derived.Test.YtdjjkdhhjdafmaaSkAll
namespace Go.Proofs.Ytdjjkdhhjdafmaa
open Go.RowKit

def le4 : Ent := ⟨[98], 1, 1, []⟩
def le5 : Ent := ⟨[], 1, 1, []⟩
theorem seek_b (X Y : Nat) : seekOf [98] 9 (lt2 X Y) = none := by kernel_rfl
theorem ins_four {X Y c : Nat} {ts' : List Tw} (h : InsSays le4 13 (lt2 X Y) c ts') : c = 2 ∧ ts' = lt2 X Y := by
  have h0 : le4.chk = 0 := by decide
  rcases h with ⟨h1, _⟩ | ⟨_, _, h1, h2⟩ | ⟨_, _, h1, _⟩ | ⟨_, _, h1, _⟩
  · exact absurd h0 h1
  · exact ⟨h1, h2⟩
  · omega
  · omega
theorem ins_five {X Y c : Nat} {ts' : List Tw} (h : InsSays le5 1 (lt2 X Y) c ts') : c = 2 ∧ ts' = lt2 X Y := by
  have h0 : le5.chk = 2 := by decide
  rcases h with ⟨_, h1, h2⟩ | ⟨h1, _⟩ | ⟨h1, _⟩ | ⟨h1, _⟩
  · exact ⟨h1.trans h0, h2⟩
  all_goals omega

set_option maxRecDepth 100000 in
set_option maxHeartbeats 4000000 in
theorem skipNames_any (w : World) :
    Calls Try.prog 4 #[] w fun x w' => x = .returned (.bool true) ∧ Below w.heap.size w w' := by
  have hcc := conv_const
  go_enter Try.func4, Try.ntmps4
  go_wp2_with fail
  refine Calls.mono (skNew_any w) ?_
  rintro _ w1 ⟨b, hd, rfl, hs1, hb1⟩
  have HS1 := Lib.hid hs1
  have HW1 := Lib.hid hb1
  clear hs1 hb1
  go_wp2_with fail
  refine Calls.mono (entry_any [97] [120] 1 w1 (by decide) (by decide)) ?_
  rintro _ w2 ⟨vk, vv, rfl, hk2, hv2, hb2⟩
  have HS2 := Lib.hid (HS1.out.below hb2)
  have HW2 : Hid (Below w.heap.size w w2) := HW1.out.trans (hb2.mono HW1.out.size)
  have HK2 := Lib.hid hk2
  have HV2 := Lib.hid hv2
  clear hk2 hv2 hb2 HS1 HW1
  go_wp2_with fail
  refine Calls.mono (insert_any _ b hd [] _ _ le1 vk vv 1 w2 HS2.out HK2.out HV2.out (by decide)) ?_
  rintro _ w3 ⟨c, ts', rfl, hs3, hw3, hi3⟩
  obtain ⟨rfl, X, rfl⟩ := ins_one hi3
  have HS3 := Lib.hid hs3
  have HW3 : Hid (Below w.heap.size w w3) := hw3.low HS2.out HW2.out
  clear hs3 hw3 hi3 HS2 HW2 HK2 HV2
  go_wp2_with fail
  refine Calls.mono (entry_any [97] [121] 3 w3 (by decide) (by decide)) ?_
  rintro _ w4 ⟨vk, vv, rfl, hk4, hv4, hb4⟩
  have HS4 := Lib.hid (HS3.out.below hb4)
  have HW4 : Hid (Below w.heap.size w w4) := HW3.out.trans (hb4.mono HW3.out.size)
  have HK4 := Lib.hid hk4
  have HV4 := Lib.hid hv4
  clear hk4 hv4 hb4 HS3 HW3
  go_wp2_with fail
  refine Calls.mono (insert_any _ b hd (lt1 X) _ _ le2 vk vv 2 w4 HS4.out HK4.out HV4.out (by show 1 < 1000000; decide)) ?_
  rintro _ w5 ⟨c, ts', rfl, hs5, hw5, hi5⟩
  obtain ⟨rfl, Y, rfl⟩ := ins_two hi5
  have HS5 := Lib.hid hs5
  have HW5 : Hid (Below w.heap.size w w5) := hw5.low HS4.out HW4.out
  clear hs5 hw5 hi5 HS4 HW4 HK4 HV4
  go_wp2_with fail
  refine calls_gen fun wa hwa => ?_
  have HBa : Hid (Below w5.heap.size w5 wa) := by rw [hwa]; exact (Below.refl _ _).alloc (Nat.le_refl _) _
  have HLa : Hid (Bytes (fun k => k = w5.heap.size) wa (.slice (some ⟨w5.heap.size, 0, none⟩) 1 1) [98]) := by rw [hwa]; exact Bytes.const w5 [98] 1 _ _ _ rfl rfl (by decide)
  clear hwa
  have hg : Calls Try.prog 21 #[.pointer (some ⟨b, 0, none⟩), .slice (some ⟨w5.heap.size, 0, none⟩) 1 1, .int .u64 9] wa (EntPost wa noEnt (.bool false)) := by
    have h := skSeek_any _ b hd (lt2 X Y) _ [98] 9 (.slice (some ⟨w5.heap.size, 0, none⟩) 1 1) wa (HS5.out.below HBa.out) HLa.out
    rw [seek_b] at h
    exact h
  refine Calls.mono hg ?_
  clear hg
  rintro _ wb ⟨vk, vv, rfl, hk, hv, hb⟩
  obtain ⟨ka1, kc1, rfl⟩ := hk.isSlice
  obtain ⟨va1, vc1, rfl⟩ := hv.isSlice
  have HBb : Hid (Below w5.heap.size w5 wb) := HBa.out.trans (hb.mono HBa.out.size)
  clear hk hv hb HLa HBa
  unfold entCells
  go_upto_region 4 with fail
  refine wp_gen fun wc hwc => ?_
  have HBc : Hid (Below w5.heap.size w5 wc) := by rw [hwc]; exact HBb.out.alloc HBb.out.size _
  clear hwc
  have HS6 := Lib.hid (HS5.out.below HBc.out)
  have HW6 : Hid (Below w.heap.size w wc) := HW5.out.trans (HBc.out.mono HW5.out.size)
  clear HBb HBc HS5 HW5
  go_wp2_with fail
  refine Calls.mono (skAll_any _ b hd (lt2 X Y) wc HS6.out) ?_
  rintro _ wd ⟨v, rfl, hr, hb⟩
  have HR := Lib.hid (show Rw entK (fun k => wc.heap.size ≤ k) wd v [le2, le1] from hr)
  have HSd := Lib.hid (HS6.out.below hb)
  have HWd : Hid (Below w.heap.size w wd) := HW6.out.trans (hb.mono HW6.out.size)
  clear hr hb HS6 HW6
  obtain ⟨rb, off, cap, rfl⟩ : ∃ rb off cap, v = .slice (some ⟨rb, off, none⟩) 2 cap := by
    obtain ⟨rb, off, cap, h, _⟩ := ents_at HR.out (by decide)
    exact ⟨rb, off, cap, h⟩
  go_wp2_with fail
  refine Calls.mono (skLives_any wd) ?_
  rintro _ we ⟨rfl, hbe⟩
  have HRe := Lib.hid (HR.out.below hbe)
  have HSe := Lib.hid (HSd.out.below hbe)
  have HWe : Hid (Below w.heap.size w we) := HWd.out.trans (hbe.mono HWd.out.size)
  clear hbe HR HSd HWd
  have k1 : we.cell? ⟨rb, off + 1, none⟩ = some (.int .u64 3) := by
    obtain ⟨rb', off', cap', h, _, _, hc⟩ := ents_at HRe.out (by decide)
    injection h with h _ _
    injection h with h
    injection h with h1 h2 _
    subst h1 h2
    obtain ⟨_, _, _, _, _, hq, _⟩ := hc 0 (by decide)
    exact hq
  go_wp2_with fail
  refine Calls.mono (entry_any [98] [] 1 we (by decide) (by decide)) ?_
  rintro _ wf ⟨vk, vv, rfl, hkf, hvf, hbf⟩
  have HSf := Lib.hid (HSe.out.below hbf)
  have HWf : Hid (Below w.heap.size w wf) := HWe.out.trans (hbf.mono HWe.out.size)
  have HKf := Lib.hid hkf
  have HVf := Lib.hid hvf
  clear hkf hvf hbf HSe HWe k1 HRe
  go_wp2_with fail
  refine Calls.mono (insert_any _ b hd (lt2 X Y) _ _ le4 vk vv 13 wf HSf.out HKf.out HVf.out (by show 2 < 1000000; decide)) ?_
  rintro _ wg ⟨c, ts', rfl, hsg, hwg, hig⟩
  obtain ⟨rfl, rfl⟩ := ins_four hig
  have HSg := Lib.hid hsg
  have HWg : Hid (Below w.heap.size w wg) := hwg.low HSf.out HWf.out
  clear hsg hwg hig HSf HWf HKf HVf
  go_wp2_with fail
  refine Calls.mono (entry_any [] [] 1 wg (by decide) (by decide)) ?_
  rintro _ wh ⟨vk, vv, rfl, hkf, hvf, hbf⟩
  have HSh := Lib.hid (HSg.out.below hbf)
  have HWh : Hid (Below w.heap.size w wh) := HWg.out.trans (hbf.mono HWg.out.size)
  have HKh := Lib.hid hkf
  have HVh := Lib.hid hvf
  clear hkf hvf hbf HSg HWg
  go_wp2_with fail
  refine Calls.mono (insert_any _ b hd (lt2 X Y) _ _ le5 vk vv 1 wh HSh.out HKh.out HVh.out (by show 2 < 1000000; decide)) ?_
  rintro _ wi ⟨c, ts', rfl, hsi, hwi, hii⟩
  obtain ⟨rfl, rfl⟩ := ins_five hii
  have HSi := Lib.hid hsi
  have HWi : Hid (Below w.heap.size w wi) := hwi.low HSh.out HWh.out
  clear hsi hwi hii HSh HWh HKh HVh
  go_wp2_with fail
  refine Calls.mono (skLen_any _ b hd (lt2 X Y) wi HSi.out) ?_
  rw [show ((lt2 X Y).length : Int) = 2 from rfl]
  rintro _ wj ⟨rfl, rfl⟩
  go_wp2_with fail
  go_ret
  exact ⟨rfl, HWi.out⟩
end Go.Proofs.Ytdjjkdhhjdafmaa
