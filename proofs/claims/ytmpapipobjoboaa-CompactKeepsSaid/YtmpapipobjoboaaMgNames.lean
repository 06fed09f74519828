/- The law MergeNames: its walk. -/
import Derived.Test.YtmpapipobjoboaaMgF
namespace Go.Proofs.Ytmpapipobjoboaa
open Go.RowKit

def eD2 : Ent := ⟨[97], 2, 2, []⟩
def eB0 : Ent := ⟨[98], 1, 1, []⟩
def eA0 : Ent := ⟨[97], 1, 1, []⟩
theorem cmpd1 : Ent.cmp eD2 eA1 = -1 := by decide
theorem cmpb0 : Ent.cmp eB0 eA0 = 1 := by decide
theorem chk_three : chkR [[eD2, eA1]] = 0 := chkR_ok fun r hr => by
  rw [List.mem_singleton.1 hr]
  exact rowB_sorted.2 (List.pairwise_pair.2 (by rw [cmpd1]; decide))
theorem chk_four : chkR [[eB0, eA0]] = 2 := chkR_bad (r := [eB0, eA0]) (List.mem_singleton.2 rfl) (rowB_false (j := 0) (by decide) (by show ¬ Ent.cmp eB0 eA0 < 0; rw [cmpb0]; decide))
theorem all_three : allOf [[eD2, eA1]] = [eD2, eA1] := by
  show two [] [eD2, eA1] = _
  rw [two_nil]
theorem seen_two : seenR 2 [[eD2, eA1]] = [] := by
  unfold seenR
  rw [all_three]
  decide +kernel
theorem seen_one : seenR 1 [[eD2, eA1]] = [eA1] := by
  unfold seenR
  rw [all_three]
  rfl
theorem row_nil : rowB [] = true := rowB_sorted.2 List.Pairwise.nil

theorem mseen_ok (F : Nat → Prop) (v : Value) (rs : List (List Ent)) (s : Int) (l : List Ent) (n : Nat) (hn : l.length = n) (w : World) (h : Rw (rowK entK) F w v rs) (hok : ROk rs) (hc : chkR rs = 0) (hl : seenR s rs = l) :
    Calls Try.prog 25 #[v, .int .u64 s] w fun x w' => ∃ a c, x = .returned (.tuple #[.slice a n c, .int .i64 0]) ∧ Rw entK (fun k => w.heap.size ≤ k) w' (.slice a n c) l ∧ Below w.heap.size w w' := by
  subst hn
  refine (mseen_any F v rs s w h hok).mono fun x w' ⟨v', h1, h2, _, h3⟩ => ?_
  rw [hl] at h2
  have h2 := h2 hc
  obtain ⟨a, c, rfl⟩ := h2.isSlice
  exact ⟨a, c, by rw [h1, hc], h2.mono fun k _ e => e.resolve_left id, h3⟩

theorem mall_bad (F : Nat → Prop) (v : Value) (rs : List (List Ent)) (w : World) (h : Rw (rowK entK) F w v rs) (hok : ROk rs) (hc : chkR rs = 2) :
    Calls Try.prog 26 #[v] w fun x w' => ∃ a c, x = .returned (.tuple #[.slice a 0 c, .int .i64 2]) ∧ Below w.heap.size w w' := by
  refine (mall_any F v rs w h hok).mono fun x w' ⟨v', h1, h2, h3⟩ => ?_
  have he : refAll rs = [] := by unfold refAll; rw [if_neg (by rw [hc]; decide)]
  rw [he] at h2
  obtain ⟨a, c, rfl⟩ := h2.isSlice
  exact ⟨a, c, by rw [h1, hc]; rfl, h3⟩

set_option maxRecDepth 100000 in
set_option maxHeartbeats 4000000 in
theorem mergeNames_any (w : World) :
    Calls Try.prog 6 #[] w fun x w' => x = .returned (.bool true) ∧ Below w.heap.size w w' := by
  have hcc := conv_const
  go_enter Try.func6, Try.ntmps6
  go_wp2_with fail
  clear hcc
  refine calls_gen fun w1 hw1 => ?_
  have HW1 : Hid (Below w.heap.size w w1) := by rw [hw1]; exact (Below.refl _ _).alloc (Nat.le_refl _) _
  have HL1 : Hid (Bytes Any w1 (.slice (some ⟨w.heap.size, 0, none⟩) 1 1) [97]) := by rw [hw1]; exact (Bytes.const w [97] 1 _ _ _ rfl rfl (by decide)).any
  clear hw1
  refine Calls.mono (mput_any [97] [120] 1 w1 (by decide) (by decide)) ?_
  rintro _ w2 ⟨vk, vv, rfl, hk, hv, hb⟩
  obtain ⟨ka, kc, rfl⟩ := hk.isSlice
  obtain ⟨va, vc, rfl⟩ := hv.isSlice
  have HW2 : Hid (Below w.heap.size w w2) := HW1.out.trans (hb.mono HW1.out.size)
  have HL2 := Lib.hid (HL1.out.below hb)
  have HK2 := Lib.hid hk.any
  have HV2 := Lib.hid hv.any
  clear hb hk hv HW1 HL1
  unfold entCells
  go_wp2_with fail
  refine calls_gen fun w3 hw3 => ?_
  have HB3 : Hid (Below w2.heap.size w2 w3) := by rw [hw3]; exact below_two _ _ _
  have HR3 : Hid (Rw (rowK entK) Any w3 (.slice (some ⟨w2.heap.size + 1, 0, none⟩) 1 1) [[eD2, eA1]]) := by
    have hb := HB3.out
    rw [hw3] at hb ⊢
    exact rows_lit1 (Blk.at_new (by simp) rfl) (ents_lit2 (e := eD2) (e' := eA1) ((Blk.at_new rfl rfl).alloc _) (HL2.out.below hb) (Bytes.nil _ _) (HK2.out.below hb) (HV2.out.below hb))
  have HW3 : Hid (Below w.heap.size w w3) := HW2.out.trans (HB3.out.mono HW2.out.size)
  clear hw3 HB3 HL2 HK2 HV2 HW2
  generalize w2.heap.size + 1 = rb at *
  refine Calls.mono (mseen_ok _ _ _ 2 [] 0 rfl w3 HR3.out (rok_of (by decide) (by decide) (by decide)) chk_three seen_two) ?_
  rintro _ w4 ⟨sa, sc, rfl, _, hb⟩
  have HW4 : Hid (Below w.heap.size w w4) := HW3.out.trans (hb.mono HW3.out.size)
  have HR4 := Lib.hid (HR3.out.below hb)
  clear hb HR3 HW3
  go_wp2_with fail
  refine Calls.mono (mseen_ok _ _ _ 1 [eA1] 1 rfl w4 HR4.out (rok_of (by decide) (by decide) (by decide)) chk_three seen_one) ?_
  rintro _ w5 ⟨ta, tc, rfl, _, hb⟩
  have HW5 : Hid (Below w.heap.size w w5) := HW4.out.trans (hb.mono HW4.out.size)
  clear hb HR4 HW4
  go_wp2_with fail
  refine Calls.mono (mput_any [98] [] 1 w5 (by decide) (by decide)) ?_
  rintro _ w6 ⟨vk, vv, rfl, hk, hv, hb⟩
  obtain ⟨k6a, k6c, rfl⟩ := hk.isSlice
  obtain ⟨v6a, v6c, rfl⟩ := hv.isSlice
  have HW6 : Hid (Below w.heap.size w w6) := HW5.out.trans (hb.mono HW5.out.size)
  have HK6 := Lib.hid hk.any
  have HV6 := Lib.hid hv.any
  clear hb hk hv HW5
  unfold entCells
  go_wp2_with fail
  refine Calls.mono (mput_any [97] [] 1 w6 (by decide) (by decide)) ?_
  rintro _ w7 ⟨vk, vv, rfl, hk, hv, hb⟩
  obtain ⟨k7a, k7c, rfl⟩ := hk.isSlice
  obtain ⟨v7a, v7c, rfl⟩ := hv.isSlice
  have HW7 : Hid (Below w.heap.size w w7) := HW6.out.trans (hb.mono HW6.out.size)
  have HK6 := Lib.hid (HK6.out.below hb)
  have HV6 := Lib.hid (HV6.out.below hb)
  have HK7 := Lib.hid hk.any
  have HV7 := Lib.hid hv.any
  clear hb hk hv HW6
  unfold entCells
  go_wp2_with fail
  refine calls_gen fun w8 hw8 => ?_
  have HB8 : Hid (Below w7.heap.size w7 w8) := by rw [hw8]; exact below_two _ _ _
  have HR8 : Hid (Rw (rowK entK) Any w8 (.slice (some ⟨w7.heap.size + 1, 0, none⟩) 1 1) [[eB0, eA0]]) := by
    have hb := HB8.out
    rw [hw8] at hb ⊢
    exact rows_lit1 (Blk.at_new (by simp) rfl) (ents_lit2 (e := eB0) (e' := eA0) ((Blk.at_new rfl rfl).alloc _) (HK6.out.below hb) (HV6.out.below hb) (HK7.out.below hb) (HV7.out.below hb))
  have HW8 : Hid (Below w.heap.size w w8) := HW7.out.trans (HB8.out.mono HW7.out.size)
  clear hw8 HB8 HK6 HV6 HK7 HV7 HW7
  generalize w7.heap.size + 1 = rb2 at *
  refine Calls.mono (mall_bad _ _ _ w8 HR8.out (rok_of (by decide) (by decide) (by decide)) chk_four) ?_
  rintro _ w9 ⟨ua, uc, rfl, hb⟩
  have HW9 : Hid (Below w.heap.size w w9) := HW8.out.trans (hb.mono HW8.out.size)
  clear hb HR8 HW8
  go_wp2_with fail
  refine Calls.mono (mlives_any _) ?_
  rintro _ w10 ⟨rfl, hb⟩
  have HW10 : Hid (Below w.heap.size w w10) := HW9.out.trans (hb.mono HW9.out.size)
  clear hb HW9
  go_wp2_with fail
  refine Calls.mono (mcheck_any Any _ [] _ (Rw.nil _ _ _) (by decide)) ?_
  rintro _ w11 ⟨rfl, hb⟩
  have HW11 : Hid (Below w.heap.size w w11) := HW10.out.trans (hb.mono HW10.out.size)
  clear hb HW10
  rw [show chkE [] = 0 by unfold chkE; rw [row_nil]; rfl]
  go_wp2_with fail
  go_ret
  exact ⟨rfl, HW11.out⟩
end Go.Proofs.Ytmpapipobjoboaa
