/- skip: Seek. -/
import Derived.Test.YtdjjkdhhjdafmaaSkH
namespace Go.Proofs.Ytdjjkdhhjdafmaa
open Go.RowKit

/-- What Seek finds. -/
def seekOf (key : List UInt8) (seq : Int) (ts : List Tw) : Option Ent := (behind (plc key seq) ts).head?.map Tw.e

set_option maxRecDepth 100000 in
set_option maxHeartbeats 1000000 in
theorem skSeek_any (lo : Lo) (b : Nat) (hd : Tw) (ts : List Tw) (G : Nat → Prop) (key : List UInt8) (seq : Int) (vk : Value) (w : World) (h : Skp lo w b hd ts) (hk : Bytes G w vk key) :
    Calls Try.prog 21 #[.pointer (some ⟨b, 0, none⟩), vk, .int .u64 seq] w (EntPost w ((seekOf key seq ts).getD noEnt) (.bool (seekOf key seq ts).isSome)) := by
  obtain ⟨ka, kc, rfl⟩ := hk.isSlice
  have HI := Lib.hid h
  have HK := Lib.hid hk
  clear h hk
  go_enter Try.func21, Try.ntmps21
  go_upto_region 1 with fail
  refine wp_gen fun w1 hw1 => ?_
  have HW1 : Hid (Below w.heap.size w w1) := by rw [hw1]; exact (Below.refl _ _).alloc (Nat.le_refl _) _
  have HR1 : Hid (Blk w1 w.heap.size zeroE 34) := by rw [hw1]; exact Blk.at_new rfl rfl
  clear hw1
  go_wp2_with fail
  refine Calls.mono (skNone_false (HI.out.below HW1.out)) ?_
  rintro _ w2 ⟨rfl, rfl⟩
  go_wp2_with fail
  refine Calls.mono (at_any lo b hd ts _ key seq (.slice ka key.length kc) w2 (HI.out.below HW1.out) (HK.out.below HW1.out)) ?_
  rintro _ w3 ⟨rfl, hb3⟩
  have HW3 : Hid (Below w.heap.size w w3) := HW1.out.trans (hb3.mono HW1.out.size)
  have HI3 := Lib.hid (HI.out.below HW3.out)
  have HR3 := Lib.hid (HR1.out.below hb3 HR1.out.lt)
  clear hb3 HW1 HR1
  cases hb : behind (plc key seq) ts with
  | nil =>
    have HG : Hid (seekOf key seq ts = none) := by show _ = _; unfold seekOf; rw [hb]; rfl
    rw [show nxt 0 ([] : List Tw) = .pointer none from rfl]
    go_wp2_with (with_reducible refine pause_store ?_)
    refine Pause.go (wpList_store_agg rfl _ _ _ rfl w.heap.size 0 rfl zeroE rfl _ _ HR3.out (by kernel_rfl) (by simp [zeroE]) zeroE_one ?_)
    rw [over_all zeroE _ rfl]
    refine list_gen fun W4 hW4 => ?_
    have HR4 : Hid (Blk W4 w.heap.size zeroE 34) := by rw [hW4]; exact HR3.out.row _
    have HW4 : Hid (Below w.heap.size w W4) := by rw [hW4]; exact below_setRow HW3.out (Nat.le_refl _) _
    clear hW4
    go_wp2_with fail
    refine bodyPost_ret (results_cell_tmp1 (p := 6) (t := 7) rfl _ _ w.heap.size 34 zeroE _ rfl HR4.out Try.underlying34 rfl (by kernel_rfl)) rfl ?_
    rw [HG.out]
    exact zero_post HW4.out rfl
  | cons t r =>
    have HG : Hid (seekOf key seq ts = some t.e) := by show _ = _; unfold seekOf; rw [hb]; rfl
    have e0 : nxt 0 (t :: r) = .pointer (some ⟨t.b, 0, none⟩) := by have := nxt_zero HI3.out _ t r hb; rwa [hb] at this
    rw [e0]
    have htm : t ∈ ts := by rw [← ahead_behind (plc key seq) ts, hb]; simp
    have hsh := HI3.out.short htm
    obtain ⟨dk, dv, g1, g2, g3⟩ := HI3.out.tower (behind_eq hb)
    obtain ⟨da, dc, rfl⟩ := g2.isSlice
    have HG1 := Lib.hid g1
    have HG2 := Lib.hid g2
    have HG3 := Lib.hid g3
    have k0 : w3.cell? ⟨t.b, 0, none⟩ = some (.slice da t.e.key.length dc) := HG1.out.c4.1
    have k1 : w3.cell? ⟨t.b, 1, none⟩ = some (.int .u64 t.e.seq) := HG1.out.c4.2.1
    have k2 : w3.cell? ⟨t.b, 2, none⟩ = some (.int .i64 t.e.kind) := HG1.out.c4.2.2.1
    have k3 : w3.cell? ⟨t.b, 3, none⟩ = some dv := HG1.out.c4.2.2.2
    clear g1 g2 g3 e0 htm
    go_wp2_with fail
    clear k0 k1 k2 k3
    refine Calls.mono (skOwn_any _ _ t.e (.slice da t.e.key.length dc) dv w3 HG2.out HG3.out (by omega) (by omega)) ?_
    rintro _ w5 ⟨vk', vv', rfl, hk5, hv5, hb5⟩
    have HK5 : Hid (Bytes (fun k => w.heap.size < k) w5 vk' t.e.key) := hk5.mono fun k _ hk => Nat.lt_of_lt_of_le HR3.out.lt hk
    have HV5 : Hid (Bytes (fun k => w.heap.size < k) w5 vv' t.e.value) := hv5.mono fun k _ hk => Nat.lt_of_lt_of_le HR3.out.lt hk
    have HW5 : Hid (Below w.heap.size w w5) := HW3.out.trans (hb5.mono HW3.out.size)
    have HR5 := Lib.hid (HR3.out.below hb5 HR3.out.lt)
    clear hk5 hv5 hb5
    go_wp2_with (with_reducible refine pause_store ?_)
    refine Pause.go (wpList_store_agg rfl _ _ _ rfl w.heap.size 0 rfl _ rfl _ _ HR5.out (by kernel_rfl) (by simp [zeroE, entCells]) (entK.one (w := w5) (x := t.e) ⟨vk', vv', rfl, HK5.out, HV5.out⟩) ?_)
    rw [over_all zeroE _ (by simp [zeroE, entCells])]
    refine list_gen fun W6 hW6 => ?_
    have HR6 : Hid (Blk W6 w.heap.size (entCells t.e vk' vv').toArray 34) := by rw [hW6]; exact HR5.out.row _
    have HW6 : Hid (Below w.heap.size w W6) := by rw [hW6]; exact below_setRow HW5.out (Nat.le_refl _) _
    have HK6 : Hid (Bytes (fun k => w.heap.size ≤ k) W6 vk' t.e.key) := by
      rw [hW6]
      exact (HK5.out.keep fun k _ hk => setRow_other w5 w.heap.size k _ (by omega)).mono fun k _ hk => Nat.le_of_lt hk
    have HV6 : Hid (Bytes (fun k => w.heap.size ≤ k) W6 vv' t.e.value) := by
      rw [hW6]
      exact (HV5.out.keep fun k _ hk => setRow_other w5 w.heap.size k _ (by omega)).mono fun k _ hk => Nat.le_of_lt hk
    clear hW6
    go_wp2_with fail
    refine bodyPost_ret (results_cell_tmp1 (p := 6) (t := 7) rfl _ _ w.heap.size 34 (entCells t.e vk' vv').toArray _ rfl HR6.out Try.underlying34 rfl (by kernel_rfl)) rfl ?_
    rw [HG.out]
    exact ⟨vk', vv', rfl, HK6.out, HV6.out, HW6.out⟩
end Go.Proofs.Ytdjjkdhhjdafmaa
