/- Merge: Peek. -/
import Derived.Test.YtmpapipobjoboaaMgW
namespace Go.Proofs.Ytmpapipobjoboaa
open Go.RowKit

/-- Heads that are fine: not too many, none empty, no entry too long. -/
structure HOk (l : List Hd) : Prop where
  few : l.length ≤ 1000000
  ne : ∀ x ∈ l, x.l ≠ []
  big : ∀ x ∈ l, ∀ e ∈ x.l, e.key.length ≤ 140737488355328 ∧ e.value.length ≤ 140737488355328

theorem rw_one {F : Nat → Prop} {w : World} {b : Nat} {T : TypeId} {e : Ent} {k v : Value} (hb : Blk w b (entCells e k v).toArray T) (hk : Bytes F w k e.key) (hv : Bytes F w v e.value) : Rw entK (fun j => j = b ∨ F j) w (.slice (some ⟨b, 0, none⟩) 1 1) [e] := by
  refine ⟨entCells e k v, ⟨_, _, rfl, Nat.le_refl _, by simp [maxLen], (fun h => by cases h), rfl, fun j u hj => ⟨_, rfl, .inl rfl, ?_⟩⟩, ?_⟩
  · rw [add_plain', Nat.zero_add]
    exact hb.cell (by simpa using hj)
  · exact Els.single ⟨k, v, rfl, hk.mono fun _ _ h => .inr h, hv.mono fun _ _ h => .inr h⟩

theorem hd_first_mem {h : Hd} (hne : h.l ≠ []) : h.first ∈ h.l := by
  unfold Hd.first
  cases hh : h.l with
  | nil => exact absurd hh hne
  | cons x r => exact List.mem_cons_self ..

def PeekPost (e : Ent) (w : World) (x : Ending) (w' : World) : Prop :=
  ∃ k v, x = .returned (.tuple #[.agg (entCells e k v).toArray, .bool true]) ∧ Bytes (fun j => w.heap.size ≤ j) w' k e.key ∧ Bytes (fun j => w.heap.size ≤ j) w' v e.value ∧ Below w.heap.size w w'

section
variable {B m : Nat} {F : Nat → Prop} {w w' : World} {v : Value} {l : List Hd}

theorem hat_mem {i : Nat} (h : i < l.length) : hat l i ∈ l := by rw [hat_eq h]; exact List.getElem_mem h

set_option maxRecDepth 100000 in
set_option maxHeartbeats 1000000 in
theorem peek_any (h : Hv B F w m v l) (hok : HOk l) (h0 : 0 < l.length) :
    Calls Try.prog 20 #[.pointer (some ⟨m, 0, none⟩)] w (PeekPost (hat l 0).first w) := by
  obtain ⟨g, cap, rfl, hBg, hg, hf, hc⟩ := hds_at h.own h0
  obtain ⟨u, hu, c0, _⟩ := hc 0 h0
  have hne := hok.ne _ (hat_mem h0)
  have HBIG := Lib.hid (hok.big _ (hat_mem h0) _ (hd_first_mem hne))
  obtain ⟨bi, oi, capi, n, rfl, _, hn0, _, hbi, kk, vv, hk, hv, hci⟩ := ents0_at hu hne
  obtain ⟨ka, kc, rfl⟩ := hk.isSlice
  obtain ⟨va, vc, rfl⟩ := hv.isSlice
  rw [Nat.zero_mul] at c0
  have hm : n ≤ 9223372036854775807 := by have := hu.len; unfold maxLen at this; omega
  have HK := Lib.hid hk
  have HV := Lib.hid hv
  have HCI := Lib.hid hci
  have HBI := Lib.hid hbi
  have HG := Lib.hid hg
  have HC0 := Lib.hid c0
  have HM := Lib.hid h.blk.lt
  have HK0 := Lib.hid h.cell
  have hlen := hok.few
  clear hc hf hu hk hv hci hbi c0 hok hne hg h
  generalize (hat l 0).first = e at *
  generalize l.length = L at *
  have t0 : ((L : Int) == 0) = false := beq_eq_false_iff_ne.2 (by omega)
  have t1 : (0 : Int) < (L : Int) := by omega
  have t2 : (0 : Int) < (n : Int) := by omega
  go_enter Try.func20, Try.ntmps20
  go_upto_region 1 with fail
  refine wp_gen fun w1 hw1 => ?_
  have HW1 : Hid (Below w.heap.size w w1) := by rw [hw1]; exact (Below.refl _ _).alloc (Nat.le_refl _) _
  have HR1 : Hid (∃ cs, Blk w1 w.heap.size cs 29 ∧ cs.size = 4) := by rw [hw1]; exact ⟨_, Blk.alloc_new _ _ _, rfl⟩
  clear hw1
  have k0 : w1.cell? ⟨m, 0, none⟩ = some (.slice (some ⟨g, 0, none⟩) L cap) := (HW1.out.cell (p := ⟨m, 0, none⟩) HM.out).trans HK0.out
  have c0 : w1.cell? ⟨g, 0, none⟩ = some (.slice (some ⟨bi, oi, none⟩) n capi) := (HW1.out.cell (p := ⟨g, 0, none⟩) HG.out).trans HC0.out
  obtain ⟨e0, e1, e2, e3⟩ := HCI.out.keep HW1.out HBI.out
  go_upto_region 3 with fail
  go_wp2_with fail
  refine calls_gen fun W hW => ?_
  have HW2 : Hid (Below w.heap.size w W) := by rw [hW]; exact HW1.out.alloc HW1.out.size _
  have HB2 : Hid (Blk W w1.heap.size (entCells e (.slice ka e.key.length kc) (.slice va e.value.length vc)).toArray 29) := by rw [hW]; exact Blk.alloc_new _ _ _
  have HR2 : Hid (∃ cs, Blk W w.heap.size cs 29 ∧ cs.size = 4) := by rw [hW]; exact HR1.out.imp fun cs h => ⟨h.1.alloc _, h.2⟩
  clear hW e0 e1 e2 e3 k0 c0 HR1 t0 t1 t2
  refine Calls.mono (mown_any _ _ [e] W (rw_one HB2.out (HK.out.below HW2.out) (HV.out.below HW2.out)) (by simp) (fun x hx => by rw [List.mem_singleton.1 hx]; exact HBIG.out)) ?_
  rintro _ w3 ⟨v3, rfl, hr3, hb3⟩
  obtain ⟨b3, o3, c3, rfl, hb4, _, hc3⟩ := ents_at hr3 (by simp)
  obtain ⟨k3, v3, hk3, hv3, q0, q1, q2, q3⟩ := hc3 0 (by simp)
  obtain ⟨k3a, k3c, rfl⟩ := hk3.isSlice
  obtain ⟨v3a, v3c, rfl⟩ := hv3.isSlice
  rw [Nat.zero_mul, Nat.add_zero] at q0 q1 q2 q3
  simp only [List.getElem_cons_zero] at hk3 hv3 q0 q1 q2 q3
  have HW3 : Hid (Below w.heap.size w w3) := HW2.out.trans (hb3.mono HW2.out.size)
  have HR3 : Hid (∃ cs, Blk w3 w.heap.size cs 29 ∧ cs.size = 4) := HR2.out.imp fun cs h => ⟨h.1.below hb3 h.1.lt, h.2⟩
  have hsz : w.heap.size + 1 ≤ W.heap.size := by obtain ⟨_, h, _⟩ := HR2.out; exact h.lt
  have HK3 : Hid (Bytes (fun j => w.heap.size + 1 ≤ j) w3 (.slice k3a e.key.length k3c) e.key) := hk3.mono fun k _ h => Nat.le_trans hsz h
  have HV3 : Hid (Bytes (fun j => w.heap.size + 1 ≤ j) w3 (.slice v3a e.value.length v3c) e.value) := hv3.mono fun k _ h => Nat.le_trans hsz h
  clear hb3 hr3 hc3 hk3 hv3 HR2 HB2 HW2 HW1 hsz hb4
  obtain ⟨cs, hc1, hc2⟩ := HR3.out
  have HC3 := Lib.hid hc1
  have HS3 := Lib.hid hc2
  clear hc1 hc2 HR3
  rw [show ([e] : List Ent).length = 1 from rfl]
  go_wp2_with (with_reducible refine pause_store ?_)
  refine Pause.go (wpList_store_agg rfl _ _ _ rfl w.heap.size 0 rfl _ rfl _ _ HC3.out (by kernel_rfl) (by rw [HS3.out]; exact Nat.le_refl _) (fun u hu => by simp at hu; rcases hu with rfl | rfl | rfl | rfl <;> rfl) ?_)
  rw [over_all cs _ (by rw [HS3.out]; rfl)]
  refine list_gen fun W4 hW4 => ?_
  have HC4 : Hid (Blk W4 w.heap.size (entCells e (.slice k3a e.key.length k3c) (.slice v3a e.value.length v3c)).toArray 29) := by rw [hW4]; exact HC3.out.row _
  have HK4 : Hid (Bytes (fun k => w.heap.size ≤ k) W4 (.slice k3a e.key.length k3c) e.key) := by
    rw [hW4]
    exact (HK3.out.keep fun k _ hk => setRow_other w3 w.heap.size k _ (by omega)).mono fun k _ hk => by omega
  have HV4 : Hid (Bytes (fun k => w.heap.size ≤ k) W4 (.slice v3a e.value.length v3c) e.value) := by
    rw [hW4]
    exact (HV3.out.keep fun k _ hk => setRow_other w3 w.heap.size k _ (by omega)).mono fun k _ hk => by omega
  have HW4 : Hid (Below w.heap.size w W4) := by rw [hW4]; exact below_setRow HW3.out (Nat.le_refl _) _
  clear hW4
  go_wp2_with fail
  refine bodyPost_ret (results_cell_tmp1 (p := 2) (t := 3) rfl _ _ w.heap.size 29 (entCells e (.slice k3a e.key.length k3c) (.slice v3a e.value.length v3c)).toArray _ rfl HC4.out Try.underlying29 rfl (by kernel_rfl)) rfl ?_
  exact ⟨_, _, rfl, HK4.out, HV4.out, HW4.out⟩
end
end Go.Proofs.Ytmpapipobjoboaa
