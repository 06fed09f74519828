/- Merge: own: entries in memory of their own. Merge: Peek. Merge: Next. Merge: what a merger tells, as plain lists. -/
import Derived.Test.YtmpapipobjoboaaMgGa
import Derived.Test.YtmpapipobjoboaaKitOwn
import Derived.Deep.LoopGhost
namespace Go.Proofs.Ytmpapipobjoboaa
open Go.RowKit

set_option maxRecDepth 100000 in
set_option maxHeartbeats 4000000 in
theorem mown_any (F : Nat → Prop) (v : Value) (l : List Ent) (w : World) (h : Rw entK F w v l) (hfew : l.length ≤ 1000000) (hbig : ∀ x ∈ l, x.key.length ≤ 140737488355328 ∧ x.value.length ≤ 140737488355328) :
    Calls Try.prog 55 #[v] w fun e w' => ∃ v', e = .returned v' ∧ Rw entK (fun k => w.heap.size ≤ k) w' v' l ∧ Below w.heap.size w w' := by
  obtain ⟨xa, ca, rfl⟩ := h.isSlice
  have HA := Lib.hid h
  have HBIG := Lib.hid hbig
  clear h hbig
  go_enter Try.func55, Try.ntmps55
  go_wp2_with fail
  go_loopw [3, 8] (fun ov iv wr => ∃ (j : Nat), iv = .int .i64 (j : Int) ∧ j ≤ l.length ∧ Hid (ROwnF entK (fun k => w.heap.size ≤ k) w.heap.size 29 wr ov (l.take j)) ∧ Hid (Below w.heap.size w wr)) (fun _ iv _ => l.length - (intOf iv).toNat)
  case atStart => exact ⟨0, rfl, by omega, ROwnF.nil _ _ _ _ _, Below.refl _ _⟩
  case round =>
    obtain ⟨j, rfl, hj, HRO, HB⟩ := hrel
    by_cases hlt : j < l.length
    · have hjl : (j : Int) < (l.length : Int) := by omega
      have HAr := Lib.hid (HA.out.below HB.out)
      obtain ⟨ba, oa, capa, ea, _, hba, hca⟩ := ents_at HAr.out (by omega)
      injection ea with e1 e2 e3
      subst e1 e3
      clear e2
      obtain ⟨vk, vv, hk, hv, c0, c1, c2, c3⟩ := hca j hlt
      obtain ⟨ka, kc, rfl⟩ := hk.isSlice
      obtain ⟨va, vc, rfl⟩ := hv.isSlice
      have HK := Lib.hid hk
      have HV := Lib.hid hv
      have HL := Lib.hid (HBIG.out l[j] (List.getElem_mem hlt))
      have HT : Hid (l.take (j + 1) = l.take j ++ [l[j]]) := List.take_succ_eq_append_getElem hlt
      have HLen : Hid ((l.take j).length < 1000000) := by show _ < _; rw [List.length_take]; omega
      clear hca hk hv hba
      generalize l[j] = e at *
      generalize l.take j = out at *
      obtain ⟨oo, oc, rfl⟩ := HRO.out.isSlice
      go_upto_region 5 with fail
      refine wp_gen fun w1 hw1 => ?_
      have HW1 : Hid (Below wr.heap.size wr w1) := by rw [hw1]; exact (Below.refl _ _).alloc (Nat.le_refl _) _
      have HE1 : Hid (Blk w1 wr.heap.size (entCells e (.slice ka e.key.length kc) (.slice va e.value.length vc)).toArray 29) := by rw [hw1]; exact Blk.at_new rfl rfl
      have HK1 : Hid (Bytes F w1.drew (.slice ka e.key.length kc) e.key) := (HK.out.below HW1.out).below (below_drew (Below.refl _ _))
      have HV1 : Hid (Bytes F w1.drew (.slice va e.value.length vc) e.value) := (HV.out.below HW1.out).below (below_drew (Below.refl _ _))
      clear hw1 c0 c1 c2 c3 HK HV HAr
      have k0 : w1.drew.cell? ⟨wr.heap.size, 0, none⟩ = some (.slice ka e.key.length kc) := HE1.out.cell rfl
      have k3 : w1.drew.cell? ⟨wr.heap.size, 3, none⟩ = some (.slice va e.value.length vc) := HE1.out.cell rfl
      have HE0 : Hid (Blk w1.drew wr.heap.size (entCells e (.slice ka e.key.length kc) (.slice va e.value.length vc)).toArray 29) := HE1.out
      have HW0 : Hid (Below wr.heap.size wr w1.drew) := below_drew HW1.out
      clear HE1 HW1
      go_region_law (first
        | (go_simp; go_at_call 50; refine Calls.mono (clone_any F (.slice ka e.key.length kc) e.key _ HK1.out HL.out.1) ?_; rintro _ x1 ⟨v1, rfl, ho1, hb1⟩; obtain ⟨a1, n1, c1, rfl⟩ := ho1.isSlice; have HE2 := Lib.hid (HE0.out.below hb1 HE0.out.lt); have k3x : x1.cell? ⟨wr.heap.size, 3, none⟩ = some (.slice va e.value.length vc) := HE2.out.cell rfl)
        | (go_simp; go_at_call 50; refine Calls.mono (clone_any F (.slice va e.value.length vc) e.value _ (HV1.out.below hb1) HL.out.2) ?_; rintro _ x2 ⟨v2, rfl, ho2, hb2⟩; obtain ⟨a2, n2, c2, rfl⟩ := ho2.isSlice; have HE3 := Lib.hid (HE2.out.below hb2 HE2.out.lt); have k0y : x2.cell? ⟨wr.heap.size, 0, none⟩ = some (.slice ka e.key.length kc) := HE3.out.cell rfl; have k3y : x2.cell? ⟨wr.heap.size, 3, none⟩ = some (.slice va e.value.length vc) := HE3.out.cell rfl; have f0y := HE3.out.free 0; have f3y := HE3.out.free 3))
      all_goals
        go_upto_region 6 with fail
        refine wp_gen fun w5 hw5 => ?_
        have HE5 : Hid (Blk w5 wr.heap.size (entCells e (.slice a1 n1 c1) (.slice a2 n2 c2)).toArray 29) := by rw [hw5]; exact (HE3.out.set 0 _).set 3 _
        have hz : wr.heap.size < w1.drew.heap.size := HE0.out.lt
        have HK5 : Hid (Bytes (fun k => wr.heap.size < k) w5 (.slice a1 n1 c1) e.key) := by
          rw [hw5]
          refine ((Owned.bytesFrom ho1).below hb2 |>.mono (F' := fun k => wr.heap.size < k) fun k _ hk => by omega).keep fun k _ hk => ?_
          rw [heap_setCell_other _ _ _ _ (by show k ≠ wr.heap.size; omega), heap_setCell_other _ _ _ _ (by show k ≠ wr.heap.size; omega)]
        have HV5 : Hid (Bytes (fun k => wr.heap.size < k) w5 (.slice a2 n2 c2) e.value) := by
          rw [hw5]
          refine ((Owned.bytesFrom ho2).mono (F' := fun k => wr.heap.size < k) fun k _ hk => by have := hb1.size; omega).keep fun k _ hk => ?_
          rw [heap_setCell_other _ _ _ _ (by show k ≠ wr.heap.size; omega), heap_setCell_other _ _ _ _ (by show k ≠ wr.heap.size; omega)]
        have HW5 : Hid (Below wr.heap.size wr w5) := by
          rw [hw5]
          exact (((HW0.out.trans (hb1.mono HW0.out.size)).trans (hb2.mono (Nat.le_trans HW0.out.size hb1.size))).setCell (Nat.le_refl _) _).setCell (Nat.le_refl _) _
        clear hw5 HE3 HE2 HE0 HK1 HV1 HW0 ho1 ho2 hb1 hb2 k0 k3 k3x k0y k3y f0y f3y hz
        have c0 : w5.cell? ⟨wr.heap.size, 0, none⟩ = some (.slice a1 n1 c1) := HE5.out.cell rfl
        have c1' : w5.cell? ⟨wr.heap.size, 1, none⟩ = some (.int .u64 e.seq) := HE5.out.cell rfl
        have c2' : w5.cell? ⟨wr.heap.size, 2, none⟩ = some (.int .i64 e.kind) := HE5.out.cell rfl
        have c3 : w5.cell? ⟨wr.heap.size, 3, none⟩ = some (.slice a2 n2 c2) := HE5.out.cell rfl
        go_wp2_with (with_reducible refine pause_append ?_)
        refine list_gen fun w3 hw3 => ?_
        have HB3 : Hid (Below w5.heap.size w5 w3) := by rw [hw3]; exact (Below.refl _ _).alloc (Nat.le_refl _) _
        have HS3 : Hid (Blk w3 w5.heap.size (entCells e (.slice a1 n1 c1) (.slice a2 n2 c2)).toArray 29) := by rw [hw3]; exact Blk.at_new rfl rfl
        clear hw3 c0 c1' c2' c3
        have HW3 : Hid (Below wr.heap.size wr w3) := HW5.out.trans (HB3.out.mono HW5.out.size)
        have HRO3 := Lib.hid (HRO.out.below HW3.out)
        have HT3 : Hid (Below w.heap.size w w3) := HB.out.trans (HW3.out.mono HB.out.size)
        have HLT : Hid (∀ k, (Value.slice oo out.length oc).ownBlock = some k → k < wr.heap.size) := fun k e0 => (HRO.out.lt k e0).2
        refine Pause.go (wpList_append_elF (K := entK) 31 29 _ 64 Try.underlying31 info_entO rfl (fun k => w.heap.size ≤ k) w.heap.size (.slice oo out.length oc) out w5.heap.size 29 _ e rfl _ _ rfl rfl rfl HRO3.out HS3.out
          ⟨_, _, rfl, (HK5.out.below HB3.out).mono fun k _ hk => ?_, (HV5.out.below HB3.out).mono fun k _ hk => ?_⟩ HLen.out (by decide) HT3.out.size ?_)
        · have h2 := HB.out.size
          exact ⟨by omega, fun e1 => by have := HLT.out k e1; omega⟩
        · have h2 := HB.out.size
          exact ⟨by omega, fun e1 => by have := HLT.out k e1; omega⟩
        · intro v4 w4 hro hg
          have HRO4 : Hid (ROwnF entK (fun k => w.heap.size ≤ k) w.heap.size 29 w4 v4 (l.take (j + 1))) := by rw [HT.out]; exact hro
          have HB4 : Hid (Below w.heap.size w w4) := HT3.out.trans (hg.below HT3.out.size fun k e0 => (HRO3.out.lt k e0).1)
          clear hro hg HRO3 HRO HS3 HLT
          go_wp2_with fail
          go_roundw
          · exact ⟨j + 1, by go_num, by omega, HRO4, HB4⟩
          · simp only [intOf]; omega
    · have hjl : ¬ (j : Int) < (l.length : Int) := by omega
      obtain rfl : j = l.length := by omega
      have h1 := HRO.out
      rw [List.take_of_length_le (Nat.le_refl _)] at h1
      have HR1 := Lib.hid h1
      clear h1 HRO
      obtain ⟨oo, oc, rfl⟩ := HR1.out.isSlice
      have HF : Hid (Rw entK (fun k => w.heap.size ≤ k) wr (.slice oo l.length oc) l) := HR1.out.rows.mono fun k _ hk => by
        rcases hk with hk | hk
        · exact (HR1.out.lt k hk).1
        · exact hk.1
      clear HR1
      go_wp2_with fail
      go_ret
      exact ⟨_, rfl, HF.out, HB.out⟩
end Go.Proofs.Ytmpapipobjoboaa

namespace Go.Proofs.Ytmpapipobjoboaa
open Go.RowKit

/-- Heads that are fine: not too many, none empty, no entry too long. -/
structure HOk (l : List Hd) : Prop where
  few : l.length ≤ 1000000
  ne : ∀ x ∈ l, x.l ≠ []
  big : ∀ x ∈ l, ∀ e ∈ x.l, e.key.length ≤ 140737488355328 ∧ e.value.length ≤ 140737488355328

theorem rw_one {F : Nat → Prop} {w : World} {b : Nat} {T : TypeId} {e : Ent} {k v : Value} (hb : Blk w b (entCells e k v).toArray T) (hk : Bytes F w k e.key) (hv : Bytes F w v e.value) : Rw entK (fun j => j = b ∨ F j) w (.slice (some ⟨b, 0, none⟩) 1 1) [e] := by
  refine ⟨entCells e k v, ⟨_, _, rfl, Nat.le_refl _, by simp [maxLen], (fun h => by cases h), rfl, fun j u hj => ⟨_, rfl, .inl rfl, ?_⟩⟩, ?_⟩
  · rw [add_plain', Nat.zero_add]
    exact hb.cell (by simpa using hj)
  · exact Els.single ⟨k, v, rfl, hk.mono fun _ _ h => .inr h, hv.mono fun _ _ h => .inr h⟩

theorem hd_first_mem {h : Hd} (hne : h.l ≠ []) : h.first ∈ h.l := by
  unfold Hd.first
  cases hh : h.l with
  | nil => exact absurd hh hne
  | cons x r => exact List.mem_cons_self ..

def PeekPost (e : Ent) (w : World) (x : Ending) (w' : World) : Prop :=
  ∃ k v, x = .returned (.tuple #[.agg (entCells e k v).toArray, .bool true]) ∧ Bytes (fun j => w.heap.size ≤ j) w' k e.key ∧ Bytes (fun j => w.heap.size ≤ j) w' v e.value ∧ Below w.heap.size w w'

section
variable {B m : Nat} {F : Nat → Prop} {w w' : World} {v : Value} {l : List Hd}

theorem hat_mem {i : Nat} (h : i < l.length) : hat l i ∈ l := by rw [hat_eq h]; exact List.getElem_mem h

set_option maxRecDepth 100000 in
set_option maxHeartbeats 1000000 in
theorem peek_any (h : Hv B F w m v l) (hok : HOk l) (h0 : 0 < l.length) :
    Calls Try.prog 20 #[.pointer (some ⟨m, 0, none⟩)] w (PeekPost (hat l 0).first w) := by
  obtain ⟨g, cap, rfl, hBg, hg, hf, hc⟩ := hds_at h.own h0
  obtain ⟨u, hu, c0, _⟩ := hc 0 h0
  have hne := hok.ne _ (hat_mem h0)
  have HBIG := Lib.hid (hok.big _ (hat_mem h0) _ (hd_first_mem hne))
  obtain ⟨bi, oi, capi, n, rfl, _, hn0, _, hbi, kk, vv, hk, hv, hci⟩ := ents0_at hu hne
  obtain ⟨ka, kc, rfl⟩ := hk.isSlice
  obtain ⟨va, vc, rfl⟩ := hv.isSlice
  rw [Nat.zero_mul] at c0
  have hm : n ≤ 9223372036854775807 := by have := hu.len; unfold maxLen at this; omega
  have HK := Lib.hid hk
  have HV := Lib.hid hv
  have HCI := Lib.hid hci
  have HBI := Lib.hid hbi
  have HG := Lib.hid hg
  have HC0 := Lib.hid c0
  have HM := Lib.hid h.blk.lt
  have HK0 := Lib.hid h.cell
  have hlen := hok.few
  clear hc hf hu hk hv hci hbi c0 hok hne hg h
  generalize (hat l 0).first = e at *
  generalize l.length = L at *
  have t0 : ((L : Int) == 0) = false := beq_eq_false_iff_ne.2 (by omega)
  have t1 : (0 : Int) < (L : Int) := by omega
  have t2 : (0 : Int) < (n : Int) := by omega
  go_enter Try.func20, Try.ntmps20
  go_upto_region 1 with fail
  refine wp_gen fun w1 hw1 => ?_
  have HW1 : Hid (Below w.heap.size w w1) := by rw [hw1]; exact (Below.refl _ _).alloc (Nat.le_refl _) _
  have HR1 : Hid (∃ cs, Blk w1 w.heap.size cs 29 ∧ cs.size = 4) := by rw [hw1]; exact ⟨_, Blk.alloc_new _ _ _, rfl⟩
  clear hw1
  have k0 : w1.cell? ⟨m, 0, none⟩ = some (.slice (some ⟨g, 0, none⟩) L cap) := (HW1.out.cell (p := ⟨m, 0, none⟩) HM.out).trans HK0.out
  have c0 : w1.cell? ⟨g, 0, none⟩ = some (.slice (some ⟨bi, oi, none⟩) n capi) := (HW1.out.cell (p := ⟨g, 0, none⟩) HG.out).trans HC0.out
  obtain ⟨e0, e1, e2, e3⟩ := HCI.out.keep HW1.out HBI.out
  go_upto_region 3 with fail
  go_wp2_with fail
  refine calls_gen fun W hW => ?_
  have HW2 : Hid (Below w.heap.size w W) := by rw [hW]; exact HW1.out.alloc HW1.out.size _
  have HB2 : Hid (Blk W w1.heap.size (entCells e (.slice ka e.key.length kc) (.slice va e.value.length vc)).toArray 29) := by rw [hW]; exact Blk.alloc_new _ _ _
  have HR2 : Hid (∃ cs, Blk W w.heap.size cs 29 ∧ cs.size = 4) := by rw [hW]; exact HR1.out.imp fun cs h => ⟨h.1.alloc _, h.2⟩
  clear hW e0 e1 e2 e3 k0 c0 HR1 t0 t1 t2
  refine Calls.mono (mown_any _ _ [e] W (rw_one HB2.out (HK.out.below HW2.out) (HV.out.below HW2.out)) (by simp) (fun x hx => by rw [List.mem_singleton.1 hx]; exact HBIG.out)) ?_
  rintro _ w3 ⟨v3, rfl, hr3, hb3⟩
  obtain ⟨b3, o3, c3, rfl, hb4, _, hc3⟩ := ents_at hr3 (by simp)
  obtain ⟨k3, v3, hk3, hv3, q0, q1, q2, q3⟩ := hc3 0 (by simp)
  obtain ⟨k3a, k3c, rfl⟩ := hk3.isSlice
  obtain ⟨v3a, v3c, rfl⟩ := hv3.isSlice
  rw [Nat.zero_mul, Nat.add_zero] at q0 q1 q2 q3
  simp only [List.getElem_cons_zero] at hk3 hv3 q0 q1 q2 q3
  have HW3 : Hid (Below w.heap.size w w3) := HW2.out.trans (hb3.mono HW2.out.size)
  have HR3 : Hid (∃ cs, Blk w3 w.heap.size cs 29 ∧ cs.size = 4) := HR2.out.imp fun cs h => ⟨h.1.below hb3 h.1.lt, h.2⟩
  have hsz : w.heap.size + 1 ≤ W.heap.size := by obtain ⟨_, h, _⟩ := HR2.out; exact h.lt
  have HK3 : Hid (Bytes (fun j => w.heap.size + 1 ≤ j) w3 (.slice k3a e.key.length k3c) e.key) := hk3.mono fun k _ h => Nat.le_trans hsz h
  have HV3 : Hid (Bytes (fun j => w.heap.size + 1 ≤ j) w3 (.slice v3a e.value.length v3c) e.value) := hv3.mono fun k _ h => Nat.le_trans hsz h
  clear hb3 hr3 hc3 hk3 hv3 HR2 HB2 HW2 HW1 hsz hb4
  obtain ⟨cs, hc1, hc2⟩ := HR3.out
  have HC3 := Lib.hid hc1
  have HS3 := Lib.hid hc2
  clear hc1 hc2 HR3
  rw [show ([e] : List Ent).length = 1 from rfl]
  go_wp2_with (with_reducible refine pause_store ?_)
  refine Pause.go (wpList_store_agg rfl _ _ _ rfl w.heap.size 0 rfl _ rfl _ _ HC3.out (by kernel_rfl) (by rw [HS3.out]; exact Nat.le_refl _) (fun u hu => by simp at hu; rcases hu with rfl | rfl | rfl | rfl <;> rfl) ?_)
  rw [over_all cs _ (by rw [HS3.out]; rfl)]
  refine list_gen fun W4 hW4 => ?_
  have HC4 : Hid (Blk W4 w.heap.size (entCells e (.slice k3a e.key.length k3c) (.slice v3a e.value.length v3c)).toArray 29) := by rw [hW4]; exact HC3.out.row _
  have HK4 : Hid (Bytes (fun k => w.heap.size ≤ k) W4 (.slice k3a e.key.length k3c) e.key) := by
    rw [hW4]
    exact (HK3.out.keep fun k _ hk => setRow_other w3 w.heap.size k _ (by omega)).mono fun k _ hk => by omega
  have HV4 : Hid (Bytes (fun k => w.heap.size ≤ k) W4 (.slice v3a e.value.length v3c) e.value) := by
    rw [hW4]
    exact (HV3.out.keep fun k _ hk => setRow_other w3 w.heap.size k _ (by omega)).mono fun k _ hk => by omega
  have HW4 : Hid (Below w.heap.size w W4) := by rw [hW4]; exact below_setRow HW3.out (Nat.le_refl _) _
  clear hW4
  go_wp2_with fail
  refine bodyPost_ret (results_cell_tmp1 (p := 2) (t := 3) rfl _ _ w.heap.size 29 (entCells e (.slice k3a e.key.length k3c) (.slice v3a e.value.length v3c)).toArray _ rfl HC4.out Try.underlying29 rfl (by kernel_rfl)) rfl ?_
  exact ⟨_, _, rfl, HK4.out, HV4.out, HW4.out⟩
end
end Go.Proofs.Ytmpapipobjoboaa

namespace Go.Proofs.Ytmpapipobjoboaa
open Go.RowKit

def total (l : List Hd) : Nat := (l.map fun x => x.l.length).sum
theorem total_perm {l l' : List Hd} (h : l.Perm l') : total l = total l' := (h.map _).sum_nat
theorem StepTo.ok {l l' : List Hd} (h : StepTo l l') (hok : HOk l) (h0 : 0 < l.length) : HOk l' ∧ total l' < total l := by
  obtain ⟨x, r, rfl⟩ : ∃ x r, l = x :: r := by cases l with
    | nil => simp at h0
    | cons x r => exact ⟨x, r, rfl⟩
  have e0 : hat (x :: r) 0 = x := rfl
  have hx := hok.ne x (List.mem_cons_self ..)
  rcases h with ⟨h1, h2⟩ | ⟨h1, h2⟩
  · rw [e0] at h1 h2
    have h3 := (List.perm_cons x).1 h2
    have h4 := total_perm h2
    simp only [total, List.map_cons, List.sum_cons] at h4 ⊢
    refine ⟨⟨?_, fun y hy => hok.ne y (List.mem_cons_of_mem _ (h3.mem_iff.1 hy)), fun y hy => hok.big y (List.mem_cons_of_mem _ (h3.mem_iff.1 hy))⟩, by omega⟩
    have := hok.few
    rw [h3.length_eq]
    simp only [List.length_cons] at this
    omega
  · rw [e0] at h1 h2
    have h4 := total_perm h2
    have hl := List.length_pos_iff.2 hx
    simp only [List.set_cons_zero] at h2 h4
    simp only [total, List.map_cons, List.sum_cons, List.length_drop] at h4 ⊢
    refine ⟨⟨?_, fun y hy => ?_, fun y hy => ?_⟩, by omega⟩
    · have := hok.few
      rw [h2.length_eq]
      exact this
    · rcases List.mem_cons.1 (h2.mem_iff.1 hy) with h5 | h5
      · subst h5
        intro e
        have := congrArg List.length e
        simp only [List.length_drop, List.length_nil] at this
        omega
      · exact hok.ne y (List.mem_cons_of_mem _ h5)
    · rcases List.mem_cons.1 (h2.mem_iff.1 hy) with h5 | h5
      · subst h5
        exact fun z hz => hok.big x (List.mem_cons_self ..) z (List.mem_of_mem_drop hz)
      · exact hok.big y (List.mem_cons_of_mem _ h5)

/-- Steps over all that are the same as e. -/
inductive Goes (e : Ent) (l : List Hd) : List Hd → Prop
  | refl : Goes e l l
  | step {l1 l2 : List Hd} : Goes e l l1 → 0 < l1.length → HeapFrom l1 l1.length 0 → Ent.cmp (hat l1 0).first e = 0 → StepTo l1 l2 → Goes e l l2

theorem Wrote.blk {S : Nat → Prop} {w w' : World} {b : Nat} {c : Array Value} {T : TypeId} (h : Wrote S w w') (hb : Blk w b c T) (hn : ¬ S b) : Blk w' b c T := hb.same (h.block b hb.lt hn)
theorem Wrote.bytes {S F : Nat → Prop} {w w' : World} {v : Value} {bs : List UInt8} (h : Wrote S w w') (hb : Bytes F w v bs) (hn : ∀ k, F k → ¬ S k) : Bytes F w' v bs := hb.keep fun k hk hF => h.block k hk (hn k hF)

theorem Hv.keep_row {B m b : Nat} {F : Nat → Prop} {w w' : World} {v : Value} {l : List Hd} (h : Hv B F w m v l) (hk : ∀ k, k ≠ b → w'.heap[k]? = w.heap[k]?) (hn : b ≠ m ∧ v.ownBlock ≠ some b ∧ ¬ F b) : Hv B F w' m v l :=
  ⟨h.blk.same (hk m (Ne.symm hn.1)), h.own.keep fun k _ e => hk k fun e2 => by
    subst e2
    rcases e with e | e
    · exact hn.2.1 e
    · exact hn.2.2 e.1, h.ne, h.nm⟩
theorem Wrote.setRow {S : Nat → Prop} {w w1 : World} (h : Wrote S w w1) {b : Nat} (hb : S b ∨ w.heap.size ≤ b) (cs : Array Value) : Wrote S w (w1.setRow b cs) :=
  ⟨h.os, h.tape, h.output, by simpa [World.setRow] using h.size, fun k hk hn => (setRow_other _ _ _ _ (fun e => by rcases hb with hb | hb; exact hn (by rw [e]; exact hb); omega)).trans (h.block k hk hn)⟩

def NextPost (B : Nat) (F : Nat → Prop) (m : Nat) (v : Value) (l : List Hd) (w : World) (x : Ending) (w' : World) : Prop :=
  ∃ k y v' l', x = .returned (.tuple #[.agg (entCells (hat l 0).first k y).toArray, .bool true]) ∧ Bytes (fun j => w.heap.size ≤ j) w' k (hat l 0).first.key ∧ Bytes (fun j => w.heap.size ≤ j) w' y (hat l 0).first.value ∧
    Hv B F w' m v' l' ∧ v'.ownBlock = v.ownBlock ∧ HOk l' ∧ HeapFrom l' l'.length 0 ∧ Goes (hat l 0).first l l' ∧ (0 < l'.length → Ent.cmp (hat l' 0).first (hat l 0).first ≠ 0) ∧ Wrote (fun k => k = m ∨ v.ownBlock = some k) w w'

section
variable {B m : Nat} {F : Nat → Prop} {w w' : World} {v : Value} {l : List Hd}

set_option maxRecDepth 100000 in
set_option maxHeartbeats 2000000 in
theorem next_core (hF : ∀ k, F k → k < w.heap.size) (h : Hv B F w m v l) (hok : HOk l) (hp : HeapFrom l l.length 0) (h0 : 0 < l.length) :
    Calls Try.prog 23 #[.pointer (some ⟨m, 0, none⟩)] w (NextPost B F m v l w) := by
  have HF := Lib.hid hF
  have HH := Lib.hid h
  have HOK := Lib.hid hok
  have HP := Lib.hid hp
  have HM : Hid (m < w.heap.size ∧ ∀ k, v.ownBlock = some k → k < w.heap.size) := ⟨h.blk.lt, fun k e => (h.own.lt k e).2⟩
  clear h hok hp hF
  go_enter Try.func23, Try.ntmps23
  go_upto_region 1 with fail
  refine wp_gen fun w1 hw1 => ?_
  have HW1 : Hid (Below w.heap.size w w1) := by rw [hw1]; exact (Below.refl _ _).alloc (Nat.le_refl _) _
  have HR1 : Hid (∃ cs, Blk w1 w.heap.size cs 29 ∧ cs.size = 4) := by rw [hw1]; exact ⟨_, Blk.alloc_new _ _ _, rfl⟩
  have hz1 : w1.heap.size = w.heap.size + 1 := by rw [hw1]; simp
  have HZ1 := Lib.hid hz1
  clear hw1 hz1
  have HV1 : Hid (Hv B F w1 m v l) := HH.out.below HW1.out
  go_wp2_with fail
  refine Calls.mono (peek_any HV1.out HOK.out h0) ?_
  rintro _ w2 ⟨k, y, rfl, hk, hy, hb2⟩
  obtain ⟨ka, kc, rfl⟩ := hk.isSlice
  obtain ⟨ya, yc, rfl⟩ := hy.isSlice
  have HW2 : Hid (Below w.heap.size w w2) := HW1.out.trans (hb2.mono HW1.out.size)
  have HV2 : Hid (Hv B F w2 m v l) := HH.out.below HW2.out
  have HR2 : Hid (∃ cs, Blk w2 w.heap.size cs 29 ∧ cs.size = 4) := HR1.out.imp fun cs h => ⟨h.1.below hb2 h.1.lt, h.2⟩
  have HK2 : Hid (Bytes (fun j => w.heap.size < j) w2 (.slice ka (hat l 0).first.key.length kc) (hat l 0).first.key) := hk.mono fun j _ hj => by have := HZ1.out; omega
  have HY2 : Hid (Bytes (fun j => w.heap.size < j) w2 (.slice ya (hat l 0).first.value.length yc) (hat l 0).first.value) := hy.mono fun j _ hj => by have := HZ1.out; omega
  clear hk hy hb2 HR1 HV1 HW1
  obtain ⟨e, he⟩ : ∃ e, (hat l 0).first = e := ⟨_, rfl⟩
  rw [he] at HK2 HY2
  rw [he]
  have HE := Lib.hid he
  clear he
  unfold entCells
  go_upto_block 0 with fail
  refine wp_gen fun w3 hw3 => ?_
  have HW3 : Hid (Below w.heap.size w w3) := by rw [hw3]; exact HW2.out.alloc HW2.out.size _
  have HV3 : Hid (Hv B F w3 m v l) := HH.out.below HW3.out
  have HR3 : Hid (∃ cs, Blk w3 w.heap.size cs 29 ∧ cs.size = 4) := by rw [hw3]; exact HR2.out.imp fun cs h => ⟨h.1.alloc _, h.2⟩
  have HE3 : Hid (Blk w3 w2.heap.size (entCells e (.slice ka e.key.length kc) (.slice ya e.value.length yc)).toArray 29) := by rw [hw3]; exact Blk.alloc_new _ _ _
  have HK3 : Hid (Bytes (fun j => w.heap.size < j) w3 (.slice ka e.key.length kc) e.key) := by rw [hw3]; exact HK2.out.below ((Below.refl _ _).alloc (Nat.le_refl _) _)
  have HY3 : Hid (Bytes (fun j => w.heap.size < j) w3 (.slice ya e.value.length yc) e.value) := by rw [hw3]; exact HY2.out.below ((Below.refl _ _).alloc (Nat.le_refl _) _)
  have HEB : Hid (w.heap.size < w2.heap.size) := by obtain ⟨_, h, _⟩ := HR2.out; exact h.lt
  clear hw3 HK2 HY2 HR2 HV2 HW2 HZ1
  generalize w2.heap.size = eb at *
  clear w2
  have HS : Hid (∀ k, w.heap.size ≤ k → ¬ (k = m ∨ v.ownBlock = some k)) := fun k hk e => by
    rcases e with e | e
    · have := HM.out.1; omega
    · have := HM.out.2 k e; omega
  go_wp2_with fail
  go_loopg [] (total l) (fun n wr => ∃ v1 l1, n = total l1 ∧ Hid (HOk l1) ∧ Hid (Hv B F wr m v1 l1) ∧ Hid (v1.ownBlock = v.ownBlock ∧ HeapFrom l1 l1.length 0 ∧ Goes e l l1) ∧
    Hid ((∃ cs, Blk wr w.heap.size cs 29 ∧ cs.size = 4) ∧ Blk wr eb (entCells e (.slice ka e.key.length kc) (.slice ya e.value.length yc)).toArray 29) ∧
    Hid (Bytes (fun j => w.heap.size < j) wr (.slice ka e.key.length kc) e.key ∧ Bytes (fun j => w.heap.size < j) wr (.slice ya e.value.length yc) e.value) ∧ Hid (Wrote (fun k => k = m ∨ v.ownBlock = some k) w wr))
  case atStart => exact ⟨v, l, rfl, HOK.out, HV3.out, ⟨rfl, HP.out, .refl⟩, ⟨HR3.out, HE3.out⟩, ⟨HK3.out, HY3.out⟩, Wrote.of_below HW3.out⟩
  case round =>
    obtain ⟨v1, l1, hn, HO1, HV1, HG1, HB1, HKY, HWr⟩ := hrel
    have HNN := Lib.hid hn
    clear hn HV3 HR3 HE3 HK3 HY3 HW3
    by_cases hl : 0 < l1.length
    · obtain ⟨g, cap, rfl, _, hg, hf, hc⟩ := hds_at HV1.out.own hl
      obtain ⟨u, hu, c0, _⟩ := hc 0 hl
      have hne := HO1.out.ne _ (hat_mem hl)
      obtain ⟨bi, oi, capi, n, rfl, hnl, hn0, _, hbi, kk, vv, hk, hv, hci⟩ := ents0_at hu hne
      obtain ⟨k1a, k1c, rfl⟩ := hk.isSlice
      obtain ⟨v1a, v1c, rfl⟩ := hv.isSlice
      rw [Nat.zero_mul] at c0
      have hm : n ≤ 9223372036854775807 := by have := hu.len; unfold maxLen at this; omega
      have hlen := HO1.out.few
      have k0 : wr.drew.cell? ⟨m, 0, none⟩ = some (.slice (some ⟨g, 0, none⟩) l1.length cap) := HV1.out.cell
      have HK1 := Lib.hid (hk.below (below_drew (Below.refl _ _)))
      have HKE : Hid (Bytes (fun j => w.heap.size < j) wr.drew (.slice ka e.key.length kc) e.key) := HKY.out.1.below (below_drew (Below.refl _ _))
      have HL1 : Hid (0 < l1.length) := hl
      obtain ⟨c, hcc⟩ : ∃ c, Ent.cmp (hat l1 0).first e = c := ⟨_, rfl⟩
      have HC := Lib.hid hcc
      have HFF : Hid (C4o bi oi (hat l1 0).first (.slice k1a (hat l1 0).first.key.length k1c) (.slice v1a (hat l1 0).first.value.length v1c) wr.drew) := hci
      have HEE : Hid (C4o eb 0 e (.slice ka e.key.length kc) (.slice ya e.value.length yc) wr.drew) := ⟨HB1.out.2.cell rfl, HB1.out.2.cell rfl, HB1.out.2.cell rfl, HB1.out.2.cell rfl⟩
      have HA : Hid (wr.drew.cell? ⟨m, 0, none⟩ = some (.slice (some ⟨g, 0, none⟩) l1.length cap) ∧ wr.drew.cell? ⟨g, 0, none⟩ = some (.slice (some ⟨bi, oi, none⟩) n capi)) := ⟨k0, c0⟩
      have HZ : Hid (m < wr.drew.heap.size ∧ g < wr.drew.heap.size ∧ bi < wr.drew.heap.size ∧ eb < wr.drew.heap.size) := ⟨HV1.out.blk.lt, hg, hbi, HB1.out.2.lt⟩
      have HX : Hid (∃ x, (hat l1 0).first = x) := ⟨_, rfl⟩
      clear hc hf hu hk hv hci hbi c0 hne hg hcc k0 hnl
      generalize hx : (hat l1 0).first = x at *
      have HX1 := Lib.hid hx
      clear hx HX
      generalize hLL : l1.length = L at *
      have HL := Lib.hid hLL
      clear hLL
      have t1 : (0 : Int) < (L : Int) := by omega
      go_wp2_with fail
      go_region_held3 (fun w' => (w'.cell? ⟨m, 0, none⟩ = some (.slice (some ⟨g, 0, none⟩) L cap) ∧ w'.cell? ⟨g, 0, none⟩ = some (.slice (some ⟨bi, oi, none⟩) n capi)) ∧ (w'.cell? ⟨bi, oi, none⟩ = some (.slice k1a x.key.length k1c) ∧ w'.cell? ⟨bi, oi + 1, none⟩ = some (.int .u64 x.seq) ∧ w'.cell? ⟨bi, oi + 2, none⟩ = some (.int .i64 x.kind) ∧ w'.cell? ⟨bi, oi + 3, none⟩ = some (.slice v1a x.value.length v1c)) ∧ (w'.cell? ⟨eb, 0, none⟩ = some (.slice ka e.key.length kc) ∧ w'.cell? ⟨eb, 1, none⟩ = some (.int .u64 e.seq) ∧ w'.cell? ⟨eb, 2, none⟩ = some (.int .i64 e.kind) ∧ w'.cell? ⟨eb, 3, none⟩ = some (.slice ya e.value.length yc)))
        (first | exact ⟨HA.out, HFF.out, HEE.out⟩ | exact ⟨⟨(hbx1.cell (p := ⟨m, 0, none⟩) HZ.out.1).trans HA.out.1, (hbx1.cell (p := ⟨g, 0, none⟩) HZ.out.2.1).trans HA.out.2⟩, HFF.out.keep hbx1 HZ.out.2.2.1, HEE.out.keep hbx1 HZ.out.2.2.2⟩)
        (first | (go_at_call 59; refine Calls.mono (ecompare_at _ _ x e c HC.out (.slice k1a x.key.length k1c) (.slice v1a x.value.length v1c) (.slice ka e.key.length kc) (.slice ya e.value.length yc) _ HK1.out HKE.out) ?_; rintro _ x1 ⟨rfl, hbx1⟩; skip))
      have HB0 := Lib.hid (below_of_drew hbx1)
      have HVX := Lib.hid (HV1.out.below HB0.out)
      have HBX : Hid ((∃ cs, Blk x1 w.heap.size cs 29 ∧ cs.size = 4) ∧ Blk x1 eb (entCells e (.slice ka e.key.length kc) (.slice ya e.value.length yc)).toArray 29) :=
        ⟨HB1.out.1.imp fun cs h => ⟨h.1.below HB0.out h.1.lt, h.2⟩, HB1.out.2.below HB0.out HB1.out.2.lt⟩
      have HKX : Hid (Bytes (fun j => w.heap.size < j) x1 (.slice ka e.key.length kc) e.key ∧ Bytes (fun j => w.heap.size < j) x1 (.slice ya e.value.length yc) e.value) := ⟨HKY.out.1.below HB0.out, HKY.out.2.below HB0.out⟩
      have HWX := Lib.hid (HWr.out.trans (Wrote.of_below HB0.out))
      clear hbx1 HB0 HV1 HB1 HKY HWr HZ HA HEE HFF HK1 HKE
      by_cases hc : c = 0
      · subst hc
        go_wp2_with fail
        refine Calls.mono (step_any HVX.out HO1.out.few HO1.out.ne (by rw [HL.out]; exact HG1.out.2.1) (by rw [HL.out]; exact hl)) ?_
        rintro _ w4 ⟨v', l', rfl, g1, g2, g3, g4, g5⟩
        have hst := g4.ok HO1.out (by rw [HL.out]; exact hl)
        have hS : ∀ k, w.heap.size ≤ k → ¬ (k = m ∨ (Value.slice (some ⟨g, 0, none⟩) L cap).ownBlock = some k) := fun k hk e => HS.out k hk (e.imp id fun e => by rw [← HG1.out.1]; exact e)
        have HG4 : Hid (v'.ownBlock = v.ownBlock ∧ HeapFrom l' l'.length 0 ∧ Goes e l l') := ⟨g2.trans HG1.out.1, g3, Goes.step HG1.out.2.2 (by rw [HL.out]; exact hl) (by rw [HL.out]; exact HG1.out.2.1) (by rw [HX1.out]; exact HC.out) g4⟩
        have HB4 : Hid ((∃ cs, Blk w4 w.heap.size cs 29 ∧ cs.size = 4) ∧ Blk w4 eb (entCells e (.slice ka e.key.length kc) (.slice ya e.value.length yc)).toArray 29) :=
          ⟨HBX.out.1.imp fun cs h => ⟨g5.blk h.1 (hS _ (Nat.le_refl _)), h.2⟩, g5.blk HBX.out.2 (hS _ (Nat.le_of_lt HEB.out))⟩
        have HK4 : Hid (Bytes (fun j => w.heap.size < j) w4 (.slice ka e.key.length kc) e.key ∧ Bytes (fun j => w.heap.size < j) w4 (.slice ya e.value.length yc) e.value) :=
          ⟨g5.bytes HKX.out.1 fun k hk => hS k (Nat.le_of_lt hk), g5.bytes HKX.out.2 fun k hk => hS k (Nat.le_of_lt hk)⟩
        have HW4 : Hid (Wrote (fun k => k = m ∨ v.ownBlock = some k) w w4) := HWX.out.trans (g5.mono fun k e => e.imp id fun e => by rw [← HG1.out.1]; exact e)
        have HV4 := Lib.hid g1
        have HO4 := Lib.hid hst
        clear g1 g2 g3 g4 g5 hst hS
        go_wp2_with fail
        go_roundg (total l')
        case measure => rw [HNN.out]; exact HO4.out.2
        case rel => exact ⟨v', l', rfl, HO4.out.1, HV4.out, HG4.out, HB4.out, HK4.out, HW4.out⟩
      · have hc0 : (c == 0) = false := beq_eq_false_iff_ne.2 hc
        have q0 : x1.cell? ⟨eb, 0, none⟩ = some (.slice ka e.key.length kc) := HBX.out.2.cell rfl
        have q1 : x1.cell? ⟨eb, 1, none⟩ = some (.int .u64 e.seq) := HBX.out.2.cell rfl
        have q2 : x1.cell? ⟨eb, 2, none⟩ = some (.int .i64 e.kind) := HBX.out.2.cell rfl
        have q3 : x1.cell? ⟨eb, 3, none⟩ = some (.slice ya e.value.length yc) := HBX.out.2.cell rfl
        obtain ⟨cs, hc1, hc2⟩ := HBX.out.1
        have HC3 := Lib.hid hc1
        have HS3 := Lib.hid hc2
        clear hc1 hc2
        go_wp2_with (with_reducible refine pause_store ?_)
        refine Pause.go (wpList_store_agg rfl _ _ _ rfl w.heap.size 0 rfl _ rfl _ _ HC3.out (by kernel_rfl) (by rw [HS3.out]; exact Nat.le_refl _) (fun u hu => by simp at hu; rcases hu with rfl | rfl | rfl | rfl <;> rfl) ?_)
        rw [over_all cs _ (by rw [HS3.out]; rfl)]
        refine list_gen fun W4 hW4 => ?_
        have HC4 : Hid (Blk W4 w.heap.size (entCells e (.slice ka e.key.length kc) (.slice ya e.value.length yc)).toArray 29) := by rw [hW4]; exact HC3.out.row _
        have HD : Hid (NextPost B F m v l w (.returned (.tuple #[.agg (entCells e (.slice ka e.key.length kc) (.slice ya e.value.length yc)).toArray, .bool true])) W4) := by
          rw [hW4]
          have hne := HS.out w.heap.size (Nat.le_refl _)
          have hb4 : ∀ k, k ≠ w.heap.size → (x1.setRow w.heap.size #[.slice ka e.key.length kc, .int .u64 e.seq, .int .i64 e.kind, .slice ya e.value.length yc]).heap[k]? = x1.heap[k]? := fun k hk => setRow_other x1 w.heap.size k _ hk
          refine ⟨_, _, _, l1, by rw [HE.out], ?_, ?_, HVX.out.keep_row (fun k hk => hb4 k hk) ?_, HG1.out.1, HO1.out, by rw [HL.out]; exact HG1.out.2.1, by rw [HE.out]; exact HG1.out.2.2, (fun _ => by rw [HE.out, HX1.out, HC.out]; exact hc), HWX.out.setRow (.inr (Nat.le_refl _)) _⟩
          · rw [HE.out]
            exact (HKX.out.1.keep fun k _ hk => hb4 k (by omega)).mono fun k _ hk => Nat.le_of_lt hk
          · rw [HE.out]
            exact (HKX.out.2.keep fun k _ hk => hb4 k (by omega)).mono fun k _ hk => Nat.le_of_lt hk
          · exact ⟨fun e => hne (.inl e), fun e => hne (.inr (by rw [← HG1.out.1]; exact e)), fun e => by have := HF.out _ e; omega⟩
        clear hW4
        go_wp2_with fail
        refine bodyPost_ret (results_cell_tmp1 (p := 2) (t := 3) rfl _ _ w.heap.size 29 (entCells e (.slice ka e.key.length kc) (.slice ya e.value.length yc)).toArray _ rfl HC4.out Try.underlying29 rfl (by kernel_rfl)) rfl ?_
        exact HD.out
    · obtain ⟨a1, c1, rfl⟩ := HV1.out.own.isSlice
      have hL0 : l1.length = 0 := by omega
      have HL0 := Lib.hid hL0
      have k0 : wr.cell? ⟨m, 0, none⟩ = some (.slice a1 l1.length c1) := HV1.out.cell
      rw [hL0] at k0
      have t1 : decide ((0 : Int) < (0 : Int)) = false := rfl
      clear hL0
      go_wp2_with fail
      go_quiet (fail)
      all_goals
        go_upto_region 6 with fail
        refine wp_gen fun wq hwq => ?_
        have HB0 : Hid (Below wr.heap.size wr wq) := by rw [hwq]; exact below_dn (Below.refl _ _) _
        clear hwq
        have HVX := Lib.hid (HV1.out.below HB0.out)
        have HBX : Hid ((∃ cs, Blk wq w.heap.size cs 29 ∧ cs.size = 4) ∧ Blk wq eb (entCells e (.slice ka e.key.length kc) (.slice ya e.value.length yc)).toArray 29) :=
          ⟨HB1.out.1.imp fun cs h => ⟨h.1.below HB0.out h.1.lt, h.2⟩, HB1.out.2.below HB0.out HB1.out.2.lt⟩
        have HKX : Hid (Bytes (fun j => w.heap.size < j) wq (.slice ka e.key.length kc) e.key ∧ Bytes (fun j => w.heap.size < j) wq (.slice ya e.value.length yc) e.value) := ⟨HKY.out.1.below HB0.out, HKY.out.2.below HB0.out⟩
        have HWX := Lib.hid (HWr.out.trans (Wrote.of_below HB0.out))
        clear HB0 HV1 HB1 HKY HWr
        have q0 : wq.cell? ⟨eb, 0, none⟩ = some (.slice ka e.key.length kc) := HBX.out.2.cell rfl
        have q1 : wq.cell? ⟨eb, 1, none⟩ = some (.int .u64 e.seq) := HBX.out.2.cell rfl
        have q2 : wq.cell? ⟨eb, 2, none⟩ = some (.int .i64 e.kind) := HBX.out.2.cell rfl
        have q3 : wq.cell? ⟨eb, 3, none⟩ = some (.slice ya e.value.length yc) := HBX.out.2.cell rfl
        obtain ⟨cs, hc1, hc2⟩ := HBX.out.1
        have HC3 := Lib.hid hc1
        have HS3 := Lib.hid hc2
        clear hc1 hc2
        go_wp2_with (with_reducible refine pause_store ?_)
        refine Pause.go (wpList_store_agg rfl _ _ _ rfl w.heap.size 0 rfl _ rfl _ _ HC3.out (by kernel_rfl) (by rw [HS3.out]; exact Nat.le_refl _) (fun u hu => by simp at hu; rcases hu with rfl | rfl | rfl | rfl <;> rfl) ?_)
        rw [over_all cs _ (by rw [HS3.out]; rfl)]
        refine list_gen fun W4 hW4 => ?_
        have HC4 : Hid (Blk W4 w.heap.size (entCells e (.slice ka e.key.length kc) (.slice ya e.value.length yc)).toArray 29) := by rw [hW4]; exact HC3.out.row _
        have HD : Hid (NextPost B F m v l w (.returned (.tuple #[.agg (entCells e (.slice ka e.key.length kc) (.slice ya e.value.length yc)).toArray, .bool true])) W4) := by
          rw [hW4]
          have hne := HS.out w.heap.size (Nat.le_refl _)
          have hb4 : ∀ k, k ≠ w.heap.size → (wq.setRow w.heap.size #[.slice ka e.key.length kc, .int .u64 e.seq, .int .i64 e.kind, .slice ya e.value.length yc]).heap[k]? = wq.heap[k]? := fun k hk => setRow_other wq w.heap.size k _ hk
          refine ⟨_, _, _, l1, by rw [HE.out], ?_, ?_, HVX.out.keep_row (fun k hk => hb4 k hk) ?_, HG1.out.1, HO1.out, by rw [HL0.out]; exact HeapFrom.half _ _ _ (Nat.zero_le _), by rw [HE.out]; exact HG1.out.2.2, (fun h => by have := HL0.out; omega), HWX.out.setRow (.inr (Nat.le_refl _)) _⟩
          · rw [HE.out]
            exact (HKX.out.1.keep fun k _ hk => hb4 k (by omega)).mono fun k _ hk => Nat.le_of_lt hk
          · rw [HE.out]
            exact (HKX.out.2.keep fun k _ hk => hb4 k (by omega)).mono fun k _ hk => Nat.le_of_lt hk
          · exact ⟨fun e => hne (.inl e), fun e => hne (.inr (by rw [← HG1.out.1]; exact e)), fun e => by have := HF.out _ e; omega⟩
        clear hW4
        go_wp2_with fail
        refine bodyPost_ret (results_cell_tmp1 (p := 2) (t := 3) rfl _ _ w.heap.size 29 (entCells e (.slice ka e.key.length kc) (.slice ya e.value.length yc)).toArray _ rfl HC4.out Try.underlying29 rfl (by kernel_rfl)) rfl ?_
        exact HD.out

theorem next_any (h : Hv B F w m v l) (hok : HOk l) (hp : HeapFrom l l.length 0) (h0 : 0 < l.length) :
    Calls Try.prog 23 #[.pointer (some ⟨m, 0, none⟩)] w (NextPost B F m v l w) := by
  have h1 : Hv B (fun k => F k ∧ k < w.heap.size) w m v l := ⟨h.blk, h.own.mono fun k hk hF _ => ⟨hF, hk⟩, h.ne, fun e => h.nm e.1⟩
  refine (next_core (fun k e => e.2) h1 hok hp h0).mono fun x w' ⟨k, y, v', l', g1, g2, g3, g4, g5, g6, g7, g8, g9, g10⟩ => ?_
  exact ⟨k, y, v', l', g1, g2, g3, ⟨g4.blk, g4.own.mono fun k _ e _ => e.1, g4.ne, h.nm⟩, g5, g6, g7, g8, g9, g10⟩
end
end Go.Proofs.Ytmpapipobjoboaa

namespace Go.Proofs.Ytmpapipobjoboaa
open Go.RowKit

def Sorted (l : List Ent) : Prop := l.Pairwise fun a b => Ent.cmp a b < 0
def Shown (l : List Hd) (x : Ent) : Prop := ∃ h ∈ l, x ∈ h.l ∧ ∀ h' ∈ l, h'.no < h.no → ∀ y ∈ h'.l, Ent.cmp y x ≠ 0
/-- What heads tell: all entries in order, of the same ones the first row's. -/
structure Tells (l : List Hd) (out : List Ent) : Prop where
  sort : Sorted out
  mem : ∀ x, x ∈ out ↔ Shown l x
def Hsort (l : List Hd) : Prop := ∀ h ∈ l, Sorted h.l

theorem ecmp_anti (a b : Ent) : Ent.cmp b a = - Ent.cmp a b := isCmp_ent.anti a b
theorem ecmp_self (a : Ent) : Ent.cmp a a = 0 := by have := ecmp_anti a a; omega
theorem ecmp_le_tr {a b c : Ent} (h1 : Ent.cmp a b ≤ 0) (h2 : Ent.cmp b c ≤ 0) : Ent.cmp a c ≤ 0 := isCmp_ent.tr a b c h1 h2
theorem ecmp_lt_le {a b c : Ent} (h1 : Ent.cmp a b < 0) (h2 : Ent.cmp b c ≤ 0) : Ent.cmp a c < 0 := by
  have h3 := ecmp_le_tr (a := a) (b := b) (c := c) (by omega) h2
  have h4 := @ecmp_le_tr b c a h2
  have := ecmp_anti a b
  have := ecmp_anti a c
  omega
theorem ecmp_le_lt {a b c : Ent} (h1 : Ent.cmp a b ≤ 0) (h2 : Ent.cmp b c < 0) : Ent.cmp a c < 0 := by
  have h3 := ecmp_le_tr (a := a) (b := b) (c := c) h1 (by omega)
  have h4 := @ecmp_le_tr c a b
  have := ecmp_anti b c
  have := ecmp_anti a c
  have := ecmp_anti a b
  have := ecmp_anti c b
  omega

theorem shown_perm {l l' : List Hd} (h : l.Perm l') (x : Ent) : Shown l x ↔ Shown l' x :=
  ⟨fun ⟨a, h1, h2, h3⟩ => ⟨a, h.mem_iff.1 h1, h2, fun b hb => h3 b (h.mem_iff.2 hb)⟩, fun ⟨a, h1, h2, h3⟩ => ⟨a, h.mem_iff.2 h1, h2, fun b hb => h3 b (h.mem_iff.1 hb)⟩⟩
theorem Tells.perm {l l' : List Hd} {out : List Ent} (h : Tells l out) (hp : l.Perm l') : Tells l' out := ⟨h.sort, fun x => (h.mem x).trans (shown_perm hp x)⟩
theorem Hsort.perm {l l' : List Hd} (h : Hsort l) (hp : l.Perm l') : Hsort l' := fun x hx => h x (hp.mem_iff.2 hx)
theorem Tells.none {out : List Ent} (h : Tells [] out) : out = [] := by
  cases out with
  | nil => rfl
  | cons x r => obtain ⟨_, h1, _⟩ := (h.mem x).1 (List.mem_cons_self ..); cases h1

theorem sorted_first {h : Hd} (hs : Sorted h.l) {x : Ent} (hx : x ∈ h.l) : Ent.cmp h.first x ≤ 0 := by
  unfold Hd.first
  unfold Sorted at hs
  cases hh : h.l with
  | nil => rw [hh] at hx; cases hx
  | cons y r =>
    rw [hh] at hx hs
    rcases List.mem_cons.1 hx with rfl | h1
    · show Ent.cmp x x ≤ 0
      rw [ecmp_self]; omega
    · have := (List.pairwise_cons.1 hs).1 x h1
      show Ent.cmp y x ≤ 0
      omega
theorem sorted_same {out : List Ent} (hs : Sorted out) {x y : Ent} (hx : x ∈ out) (hy : y ∈ out) (h : Ent.cmp x y = 0) : x = y := by
  unfold Sorted at hs
  induction out with
  | nil => cases hx
  | cons a r ih =>
    obtain ⟨h1, h2⟩ := List.pairwise_cons.1 hs
    rcases List.mem_cons.1 hx with rfl | hx'
    · rcases List.mem_cons.1 hy with rfl | hy'
      · rfl
      · have := h1 y hy'; omega
    · rcases List.mem_cons.1 hy with rfl | hy'
      · have := h1 x hx'; have := ecmp_anti y x; omega
      · exact ih h2 hx' hy'

theorem hcmp_le {a b : Hd} (h : hcmp a b ≤ 0) : Ent.cmp a.first b.first ≤ 0 ∧ (Ent.cmp a.first b.first = 0 → a.no ≤ b.no) := by
  unfold hcmp Ent.lex at h
  split at h
  · exact ⟨h, fun e => by omega⟩
  · refine ⟨by omega, fun _ => ?_⟩
    unfold Ent.sgn at h
    split at h
    · omega
    · split at h
      · omega
      · omega

/-- The first one at the top is shown, and none is below it. -/
theorem top_least {l : List Hd} (hs : Hsort l) (hp : HeapFrom l l.length 0) {h : Hd} (hh : h ∈ l) {x : Ent} (hx : x ∈ h.l) : Ent.cmp (hat l 0).first x ≤ 0 := by
  obtain ⟨i, hi, rfl⟩ := List.mem_iff_getElem.1 hh
  have h1 := hcmp_le (hp.top i hi)
  rw [hat_eq hi] at h1
  exact ecmp_le_tr h1.1 (sorted_first (hs _ hh) hx)
theorem top_shown {l : List Hd} (hs : Hsort l) (hok : HOk l) (hp : HeapFrom l l.length 0) (h0 : 0 < l.length) : Shown l (hat l 0).first := by
  refine ⟨hat l 0, hat_mem h0, hd_first_mem (hok.ne _ (hat_mem h0)), fun h' hh' hn y hy hc => ?_⟩
  obtain ⟨i, hi, rfl⟩ := List.mem_iff_getElem.1 hh'
  have h1 := hcmp_le (hp.top i hi)
  rw [hat_eq hi] at h1
  have h2 := sorted_first (hs _ hh') hy
  have h3 := ecmp_le_tr h2 (by omega : Ent.cmp y (hat l 0).first ≤ 0)
  have h4 := ecmp_anti (hat l 0).first l[i].first
  have := h1.2 (by omega)
  omega

theorem shown_tail {f x : Ent} {t : List Ent} {n : Int} {r : List Hd} (hf : Ent.cmp f x ≠ 0) : Shown (⟨f :: t, n⟩ :: r) x ↔ Shown (⟨t, n⟩ :: r) x := by
  have hne : x ≠ f := fun e => hf (by rw [e]; exact ecmp_self f)
  constructor
  · rintro ⟨h, h1, h2, h3⟩
    have key : ∀ m : Int, (∀ h' ∈ (⟨f :: t, n⟩ :: r : List Hd), h'.no < m → ∀ y ∈ h'.l, Ent.cmp y x ≠ 0) → ∀ h' ∈ (⟨t, n⟩ :: r : List Hd), h'.no < m → ∀ y ∈ h'.l, Ent.cmp y x ≠ 0 := by
      intro m hm h' hh' hn y hy
      rcases List.mem_cons.1 hh' with rfl | hh'
      · exact hm _ (List.mem_cons_self ..) hn y (List.mem_cons_of_mem _ hy)
      · exact hm _ (List.mem_cons_of_mem _ hh') hn y hy
    rcases List.mem_cons.1 h1 with rfl | h1
    · exact ⟨⟨t, n⟩, List.mem_cons_self .., (List.mem_cons.1 h2).resolve_left hne, key n h3⟩
    · exact ⟨h, List.mem_cons_of_mem _ h1, h2, key h.no h3⟩
  · rintro ⟨h, h1, h2, h3⟩
    have key : ∀ m : Int, (∀ h' ∈ (⟨t, n⟩ :: r : List Hd), h'.no < m → ∀ y ∈ h'.l, Ent.cmp y x ≠ 0) → ∀ h' ∈ (⟨f :: t, n⟩ :: r : List Hd), h'.no < m → ∀ y ∈ h'.l, Ent.cmp y x ≠ 0 := by
      intro m hm h' hh' hn y hy
      rcases List.mem_cons.1 hh' with rfl | hh'
      · rcases List.mem_cons.1 hy with rfl | hy
        · exact hf
        · exact hm ⟨t, n⟩ (List.mem_cons_self ..) hn y hy
      · exact hm _ (List.mem_cons_of_mem _ hh') hn y hy
    rcases List.mem_cons.1 h1 with rfl | h1
    · exact ⟨⟨f :: t, n⟩, List.mem_cons_self .., List.mem_cons_of_mem _ h2, key n h3⟩
    · exact ⟨h, List.mem_cons_of_mem _ h1, h2, key h.no h3⟩
theorem shown_empty {x : Ent} {n : Int} {r : List Hd} : Shown (⟨[], n⟩ :: r) x ↔ Shown r x := by
  constructor
  · rintro ⟨h, h1, h2, h3⟩
    rcases List.mem_cons.1 h1 with rfl | h1
    · cases h2
    · exact ⟨h, h1, h2, fun h' hh' => h3 h' (List.mem_cons_of_mem _ hh')⟩
  · rintro ⟨h, h1, h2, h3⟩
    refine ⟨h, List.mem_cons_of_mem _ h1, h2, fun h' hh' hn y hy => ?_⟩
    rcases List.mem_cons.1 hh' with rfl | hh'
    · cases hy
    · exact h3 h' hh' hn y hy

/-- What holds of all that steps over e come to. -/
structure Went (e : Ent) (l l1 : List Hd) : Prop where
  ok : HOk l1
  sort : Hsort l1
  shown : ∀ x, Ent.cmp e x < 0 → (Shown l1 x ↔ Shown l x)
  from_ : ∀ h ∈ l1, ∀ x ∈ h.l, Ent.cmp e x ≤ 0

theorem Went.step {e : Ent} {l l1 l2 : List Hd} (h : Went e l l1) (h0 : 0 < l1.length) (hc : Ent.cmp (hat l1 0).first e = 0) (hs : StepTo l1 l2) : Went e l l2 := by
  have hok := (hs.ok h.ok h0).1
  obtain ⟨top, r, rfl⟩ : ∃ x r, l1 = x :: r := by cases l1 with
    | nil => simp at h0
    | cons x r => exact ⟨x, r, rfl⟩
  have e0 : hat (top :: r) 0 = top := rfl
  rw [e0] at hc
  obtain ⟨tl, no⟩ := top
  obtain ⟨f, t, rfl⟩ : ∃ f t, tl = f :: t := by cases tl with
    | nil => exact absurd rfl (h.ok.ne _ (List.mem_cons_self ..))
    | cons f t => exact ⟨f, t, rfl⟩
  have hcf : Ent.cmp f e = 0 := hc
  have hx : ∀ x, Ent.cmp e x < 0 → Ent.cmp f x ≠ 0 := fun x hx => by have := ecmp_le_lt (a := f) (b := e) (c := x) (by omega) hx; omega
  have key : Hsort l2 ∧ (∀ x, Ent.cmp f x ≠ 0 → (Shown l2 x ↔ Shown (⟨t, no⟩ :: r) x)) ∧ ∀ h' ∈ l2, ∀ x ∈ h'.l, ∃ h ∈ (⟨f :: t, no⟩ :: r : List Hd), x ∈ h.l := by
    rcases hs with ⟨h1, h2⟩ | ⟨h1, h2⟩
    · rw [e0] at h1 h2
      have h3 := (List.perm_cons _).1 h2
      have ht : t = [] := List.eq_nil_of_length_eq_zero (by simpa using h1)
      subst ht
      exact ⟨fun y hy => h.sort y (List.mem_cons_of_mem _ (h3.mem_iff.1 hy)), fun x _ => (shown_perm h3 x).trans shown_empty.symm, fun y hy x hxy => ⟨y, List.mem_cons_of_mem _ (h3.mem_iff.1 hy), hxy⟩⟩
    · rw [e0] at h2
      have h3 : l2.Perm (⟨t, no⟩ :: r) := h2
      refine ⟨fun y hy => ?_, fun x _ => shown_perm h3 x, fun y hy x hxy => ?_⟩
      · rcases List.mem_cons.1 (h3.mem_iff.1 hy) with rfl | hy
        · exact (List.pairwise_cons.1 (h.sort _ (List.mem_cons_self ..))).2
        · exact h.sort y (List.mem_cons_of_mem _ hy)
      · rcases List.mem_cons.1 (h3.mem_iff.1 hy) with rfl | hy
        · exact ⟨_, List.mem_cons_self .., List.mem_cons_of_mem _ hxy⟩
        · exact ⟨y, List.mem_cons_of_mem _ hy, hxy⟩
  refine ⟨hok, key.1, fun x hx' => ?_, fun h' hh' x hxh => ?_⟩
  · exact (key.2.1 x (hx x hx')).trans ((shown_tail (hx x hx')).symm.trans (h.shown x hx'))
  · obtain ⟨y, hy, hxy⟩ := key.2.2 h' hh' x hxh
    exact h.from_ y hy x hxy

theorem went_of {l l' : List Hd} (hs : Hsort l) (hok : HOk l) (hp : HeapFrom l l.length 0) (hg : Goes (hat l 0).first l l') : Went (hat l 0).first l l' := by
  induction hg with
  | refl => exact ⟨hok, hs, fun _ _ => Iff.rfl, fun h hh x hx => top_least hs hp hh hx⟩
  | step _ h0 _ hc hst ih => exact ih.step h0 hc hst

/-- Next tells the first one, and what is left tells the others. -/
theorem Tells.next {l l' : List Hd} {out : List Ent} (h : Tells l out) (hs : Hsort l) (hok : HOk l) (hp : HeapFrom l l.length 0) (h0 : 0 < l.length) (hg : Goes (hat l 0).first l l') (hp' : HeapFrom l' l'.length 0)
    (hn : 0 < l'.length → Ent.cmp (hat l' 0).first (hat l 0).first ≠ 0) : ∃ out', out = (hat l 0).first :: out' ∧ Tells l' out' ∧ Hsort l' := by
  have hw := went_of hs hok hp hg
  generalize he : (hat l 0).first = e at *
  have hsh : Shown l e := by rw [← he]; exact top_shown hs hok hp h0
  have hmin : ∀ x, x ∈ out → Ent.cmp e x ≤ 0 := fun x hx => by
    obtain ⟨a, h1, h2, _⟩ := (h.mem x).1 hx
    rw [← he]
    exact top_least hs hp h1 h2
  obtain ⟨o, out', rfl⟩ : ∃ o out', out = o :: out' := by cases out with
    | nil => exact absurd ((h.mem e).2 hsh) (by simp)
    | cons o r => exact ⟨o, r, rfl⟩
  obtain ⟨hs1, hs2⟩ := List.pairwise_cons.1 h.sort
  have hoe : e = o := by
    refine sorted_same h.sort ((h.mem e).2 hsh) (List.mem_cons_self ..) ?_
    have h1 := hmin o (List.mem_cons_self ..)
    rcases List.mem_cons.1 ((h.mem e).2 hsh) with h2 | h2
    · rw [h2]; exact ecmp_self o
    · have := hs1 e h2
      have := ecmp_anti o e
      omega
  subst hoe
  refine ⟨out', rfl, ⟨hs2, fun x => ⟨fun hx => ?_, fun hx => ?_⟩⟩, hw.sort⟩
  · exact (hw.shown x (hs1 x hx)).2 ((h.mem x).1 (List.mem_cons_of_mem _ hx))
  · obtain ⟨a, h1, h2, _⟩ := id hx
    have h3 := hw.from_ a h1 x h2
    have hl : 0 < l'.length := List.length_pos_of_mem h1
    have h4 := top_least hw.sort hp' h1 h2
    have h5 := hn hl
    have h6 : Ent.cmp e x < 0 := by
      rcases Int.lt_or_eq_of_le h3 with h7 | h7
      · exact h7
      · exfalso
        have h8 := ecmp_anti e x
        have h9 := ecmp_le_tr h4 (by omega : Ent.cmp x e ≤ 0)
        have h10 := hw.from_ _ (hat_mem hl) _ (hd_first_mem (hw.ok.ne _ (hat_mem hl)))
        have h11 := ecmp_anti e (hat l' 0).first
        omega
    have h7 := (h.mem x).2 ((hw.shown x h6).1 hx)
    rcases List.mem_cons.1 h7 with rfl | h8
    · rw [ecmp_self] at h6; omega
    · exact h8
end Go.Proofs.Ytmpapipobjoboaa
