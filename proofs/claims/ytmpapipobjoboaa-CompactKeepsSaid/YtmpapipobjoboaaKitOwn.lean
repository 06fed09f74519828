/- The statements' own helper OwnEntries: entries in memory of their own, whose keys may be written. -/
import Derived.Test.YtmpapipobjoboaaKitE
namespace Go.Proofs.Ytmpapipobjoboaa
open Go.RowKit

/-- An entry whose key is a row of one's own. -/
def ownK : Kind Ent where
  sz := 4
  R F w cs e := ∃ vk vv, cs = entCells e vk vv ∧ (∃ base, Owned base w vk e.key ∧ ∀ k, vk.ownBlock = some k → F k) ∧ Bytes F w vv e.value
  pos := by decide
  len := by rintro F w cs x ⟨vk, vv, rfl, _⟩; rfl
  keep := by
    rintro F w w' cs x ⟨vk, vv, rfl, ⟨base, h1, h3⟩, h2⟩ hk
    exact ⟨vk, vv, rfl, ⟨base, h1.keep fun k hl e => hk k hl (h3 k e), h3⟩, h2.keep hk⟩
  mono := by
    rintro F F' w cs x ⟨vk, vv, rfl, ⟨base, h1, h3⟩, h2⟩ hk
    exact ⟨vk, vv, rfl, ⟨base, h1, fun k e => hk k (World.ownsRow.lt h1 k e).2 (h3 k e)⟩, h2.mono hk⟩
  one := by
    rintro F w cs x ⟨vk, vv, rfl, ⟨base, h1, _⟩, h2⟩ u hu
    have g1 := (Owned.bytes h1).oneCell
    have g2 := h2.oneCell
    simp only [entCells, List.mem_cons, List.not_mem_nil, or_false] at hu
    rcases hu with rfl | rfl | rfl | rfl <;> first | rfl | exact g1 | exact g2

theorem info_entO : (Try.prog.info? 29).map (fun i => (i.zero, i.size, i.bytes)) = some (some (.agg #[.slice none 0 0, .int .u64 0, .int .i64 0, .slice none 0 0]), 4, 64) := by kernel_rfl

theorem ownR {F : Nat → Prop} {w : World} {cs : List Value} {x : Ent} (h : ownK.R F w cs x) : entK.R F w cs x := by
  obtain ⟨vk, vv, rfl, ⟨base, h1, h3⟩, h2⟩ := h
  exact ⟨vk, vv, rfl, (Owned.bytes h1).mono fun k _ e => h3 k e, h2⟩
theorem ownEls {F : Nat → Prop} {w : World} : ∀ {l : List Ent} {cs : List Value}, Els ownK F w cs l → Els entK F w cs l
  | [], _, h => h
  | _ :: _, _, h => ⟨ownR h.1, ownEls h.2⟩
theorem ownRw {F : Nat → Prop} {w : World} {v : Value} {l : List Ent} (h : Rw ownK F w v l) : Rw entK F w v l := by
  obtain ⟨cs, h1, h2⟩ := h
  exact ⟨cs, h1, ownEls h2⟩

set_option maxRecDepth 100000 in
set_option maxHeartbeats 4000000 in
theorem ownEntriesO_any (F : Nat → Prop) (v : Value) (l : List Ent) (w : World) (h : Rw entK F w v l) (hfew : l.length ≤ 1000000) (hbig : ∀ x ∈ l, x.key.length ≤ 140737488355328 ∧ x.value.length ≤ 140737488355328) :
    Calls Try.prog 42 #[v] w fun e w' => ∃ v', e = .returned v' ∧ ROwnF ownK (fun k => w.heap.size ≤ k) w.heap.size 29 w' v' l ∧ Below w.heap.size w w' := by
  obtain ⟨xa, ca, rfl⟩ := h.isSlice
  have HA := Lib.hid h
  have HBIG := Lib.hid hbig
  clear h hbig
  go_enter Try.func42, Try.ntmps42
  go_wp2_with fail
  go_loopw [3, 4] (fun ov iv wr => ∃ (j : Nat), iv = .int .i64 (j : Int) ∧ j ≤ l.length ∧ Hid (ROwnF ownK (fun k => w.heap.size ≤ k) w.heap.size 29 wr ov (l.take j)) ∧ Hid (Below w.heap.size w wr)) (fun _ iv _ => l.length - (intOf iv).toNat)
  case atStart => exact ⟨0, rfl, by omega, ROwnF.nil _ _ _ _ _, Below.refl _ _⟩
  case round =>
    obtain ⟨j, rfl, hj, HRO, HB⟩ := hrel
    by_cases hlt : j < l.length
    · have hjl : (j : Int) < (l.length : Int) := by omega
      have HAr := Lib.hid (HA.out.below HB.out)
      obtain ⟨ba, oa, capa, ea, _, hba, hca⟩ := ents_at HAr.out (by omega)
      injection ea with e1 e2 e3
      subst e1 e3
      clear e2
      obtain ⟨vk, vv, hk, hv, c0, c1, c2, c3⟩ := hca j hlt
      obtain ⟨ka, kc, rfl⟩ := hk.isSlice
      obtain ⟨va, vc, rfl⟩ := hv.isSlice
      have HK := Lib.hid hk
      have HV := Lib.hid hv
      have HL := Lib.hid (HBIG.out l[j] (List.getElem_mem hlt))
      have HT : Hid (l.take (j + 1) = l.take j ++ [l[j]]) := List.take_succ_eq_append_getElem hlt
      have HLen : Hid ((l.take j).length < 1000000) := by show _ < _; rw [List.length_take]; omega
      clear hca hk hv hba
      generalize l[j] = e at *
      generalize l.take j = out at *
      obtain ⟨oo, oc, rfl⟩ := HRO.out.isSlice
      go_upto_region 6 with fail
      refine wp_gen fun w1 hw1 => ?_
      have HW1 : Hid (Below wr.heap.size wr w1) := by rw [hw1]; exact (Below.refl _ _).alloc (Nat.le_refl _) _
      have HE1 : Hid (Blk w1 wr.heap.size (entCells e (.slice ka e.key.length kc) (.slice va e.value.length vc)).toArray 29) := by rw [hw1]; exact Blk.at_new rfl rfl
      have HK1 : Hid (Bytes F w1.drew (.slice ka e.key.length kc) e.key) := (HK.out.below HW1.out).below (below_drew (Below.refl _ _))
      have HV1 : Hid (Bytes F w1.drew (.slice va e.value.length vc) e.value) := (HV.out.below HW1.out).below (below_drew (Below.refl _ _))
      clear hw1 c0 c1 c2 c3 HK HV HAr
      have k0 : w1.drew.cell? ⟨wr.heap.size, 0, none⟩ = some (.slice ka e.key.length kc) := HE1.out.cell rfl
      have k3 : w1.drew.cell? ⟨wr.heap.size, 3, none⟩ = some (.slice va e.value.length vc) := HE1.out.cell rfl
      have HE0 : Hid (Blk w1.drew wr.heap.size (entCells e (.slice ka e.key.length kc) (.slice va e.value.length vc)).toArray 29) := HE1.out
      have HW0 : Hid (Below wr.heap.size wr w1.drew) := below_drew HW1.out
      clear HE1 HW1
      go_region_law (first
        | (go_simp; go_at_call 66; refine Calls.mono (own_any F (.slice ka e.key.length kc) e.key _ HK1.out HL.out.1) ?_; rintro _ x1 ⟨v1, rfl, ho1, hb1⟩; obtain ⟨a1, n1, c1, rfl⟩ := ho1.isSlice; have HE2 := Lib.hid (HE0.out.below hb1 HE0.out.lt); have k3x : x1.cell? ⟨wr.heap.size, 3, none⟩ = some (.slice va e.value.length vc) := HE2.out.cell rfl)
        | (go_simp; go_at_call 66; refine Calls.mono (own_any F (.slice va e.value.length vc) e.value _ (HV1.out.below hb1) HL.out.2) ?_; rintro _ x2 ⟨v2, rfl, ho2, hb2⟩; obtain ⟨a2, n2, c2, rfl⟩ := ho2.isSlice; have HE3 := Lib.hid (HE2.out.below hb2 HE2.out.lt); have k0y : x2.cell? ⟨wr.heap.size, 0, none⟩ = some (.slice ka e.key.length kc) := HE3.out.cell rfl; have k3y : x2.cell? ⟨wr.heap.size, 3, none⟩ = some (.slice va e.value.length vc) := HE3.out.cell rfl; have f0y := HE3.out.free 0; have f3y := HE3.out.free 3))
      all_goals
        go_upto_region 7 with fail
        refine wp_gen fun w5 hw5 => ?_
        have HE5 : Hid (Blk w5 wr.heap.size (entCells e (.slice a1 n1 c1) (.slice a2 n2 c2)).toArray 29) := by rw [hw5]; exact (HE3.out.set 0 _).set 3 _
        have hz : wr.heap.size < w1.drew.heap.size := HE0.out.lt
        have HK5 : Hid (Owned (wr.heap.size + 1) w5 (.slice a1 n1 c1) e.key) := by
          rw [hw5]
          refine ((ho1.below hb2).base hz).keep fun k _ e0 => ?_
          have hk := (World.ownsRow.lt ho1 k e0).1
          rw [heap_setCell_other _ _ _ _ (by show k ≠ wr.heap.size; omega), heap_setCell_other _ _ _ _ (by show k ≠ wr.heap.size; omega)]
        have HV5 : Hid (Bytes (fun k => wr.heap.size < k) w5 (.slice a2 n2 c2) e.value) := by
          rw [hw5]
          refine ((Owned.bytesFrom ho2).mono (F' := fun k => wr.heap.size < k) fun k _ hk => by have := hb1.size; omega).keep fun k _ hk => ?_
          rw [heap_setCell_other _ _ _ _ (by show k ≠ wr.heap.size; omega), heap_setCell_other _ _ _ _ (by show k ≠ wr.heap.size; omega)]
        have HW5 : Hid (Below wr.heap.size wr w5) := by
          rw [hw5]
          exact (((HW0.out.trans (hb1.mono HW0.out.size)).trans (hb2.mono (Nat.le_trans HW0.out.size hb1.size))).setCell (Nat.le_refl _) _).setCell (Nat.le_refl _) _
        clear hw5 HE3 HE2 HE0 HK1 HV1 HW0 ho1 ho2 hb1 hb2 k0 k3 k3x k0y k3y f0y f3y hz
        have c0 : w5.cell? ⟨wr.heap.size, 0, none⟩ = some (.slice a1 n1 c1) := HE5.out.cell rfl
        have c1' : w5.cell? ⟨wr.heap.size, 1, none⟩ = some (.int .u64 e.seq) := HE5.out.cell rfl
        have c2' : w5.cell? ⟨wr.heap.size, 2, none⟩ = some (.int .i64 e.kind) := HE5.out.cell rfl
        have c3 : w5.cell? ⟨wr.heap.size, 3, none⟩ = some (.slice a2 n2 c2) := HE5.out.cell rfl
        go_wp2_with (with_reducible refine pause_append ?_)
        refine list_gen fun w3 hw3 => ?_
        have HB3 : Hid (Below w5.heap.size w5 w3) := by rw [hw3]; exact (Below.refl _ _).alloc (Nat.le_refl _) _
        have HS3 : Hid (Blk w3 w5.heap.size (entCells e (.slice a1 n1 c1) (.slice a2 n2 c2)).toArray 29) := by rw [hw3]; exact Blk.at_new rfl rfl
        clear hw3 c0 c1' c2' c3
        have HW3 : Hid (Below wr.heap.size wr w3) := HW5.out.trans (HB3.out.mono HW5.out.size)
        have HRO3 := Lib.hid (HRO.out.below HW3.out)
        have HT3 : Hid (Below w.heap.size w w3) := HB.out.trans (HW3.out.mono HB.out.size)
        have HLT : Hid (∀ k, (Value.slice oo out.length oc).ownBlock = some k → k < wr.heap.size) := fun k e0 => (HRO.out.lt k e0).2
        refine Pause.go (wpList_append_elF (K := ownK) 31 29 _ 64 Try.underlying31 info_entO rfl (fun k => w.heap.size ≤ k) w.heap.size (.slice oo out.length oc) out w5.heap.size 29 _ e rfl _ _ rfl rfl rfl HRO3.out HS3.out
          ⟨_, _, rfl, ⟨_, HK5.out.below HB3.out, fun k e0 => ?_⟩, (HV5.out.below HB3.out).mono fun k _ hk => ?_⟩ HLen.out (by decide) HT3.out.size ?_)
        · have h1 := (World.ownsRow.lt HK5.out k e0).1
          have h2 := HB.out.size
          exact ⟨by omega, fun e1 => by have := HLT.out k e1; omega⟩
        · have h2 := HB.out.size
          exact ⟨by omega, fun e1 => by have := HLT.out k e1; omega⟩
        · intro v4 w4 hro hg
          have HRO4 : Hid (ROwnF ownK (fun k => w.heap.size ≤ k) w.heap.size 29 w4 v4 (l.take (j + 1))) := by rw [HT.out]; exact hro
          have HB4 : Hid (Below w.heap.size w w4) := HT3.out.trans (hg.below HT3.out.size fun k e0 => (HRO3.out.lt k e0).1)
          clear hro hg HRO3 HRO HS3 HLT
          go_wp2_with fail
          go_roundw
          · exact ⟨j + 1, by go_num, by omega, HRO4, HB4⟩
          · simp only [intOf]; omega
    · have hjl : ¬ (j : Int) < (l.length : Int) := by omega
      obtain rfl : j = l.length := by omega
      have h1 := HRO.out
      rw [List.take_of_length_le (Nat.le_refl _)] at h1
      have HR1 := Lib.hid h1
      clear h1 HRO
      obtain ⟨oo, oc, rfl⟩ := HR1.out.isSlice
      have HF : Hid (ROwnF ownK (fun k => w.heap.size ≤ k) w.heap.size 29 wr (.slice oo l.length oc) l) := HR1.out
      clear HR1
      go_wp2_with fail
      go_ret
      exact ⟨_, rfl, HF.out, HB.out⟩

theorem ownEntries_any (F : Nat → Prop) (v : Value) (l : List Ent) (w : World) (h : Rw entK F w v l) (hfew : l.length ≤ 1000000) (hbig : ∀ x ∈ l, x.key.length ≤ 140737488355328 ∧ x.value.length ≤ 140737488355328) :
    Calls Try.prog 42 #[v] w fun e w' => ∃ v', e = .returned v' ∧ Rw ownK (fun k => w.heap.size ≤ k) w' v' l ∧ Below w.heap.size w w' :=
  (ownEntriesO_any F v l w h hfew hbig).mono fun _ _ ⟨v', h1, h2, h3⟩ => ⟨v', h1, h2.rows.mono fun k _ hk => (by
    rcases hk with hk | hk
    · exact (h2.lt k hk).1
    · exact hk.1), h3⟩
end Go.Proofs.Ytmpapipobjoboaa
