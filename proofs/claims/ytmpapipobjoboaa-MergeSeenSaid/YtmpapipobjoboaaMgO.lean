/- Merge: container/heap over a merger's heads: Pop. -/
import Derived.Test.YtmpapipobjoboaaMgI
namespace Go.Proofs.Ytmpapipobjoboaa
open Go.RowKit

section
variable {B m : Nat} {F : Nat → Prop} {w w' : World} {v : Value} {l : List Hd}

theorem under_heads : Try.prog.underlying 51 = some (.slice (Try.prog.elem 51)) := by kernel_rfl
theorem size_heads : (Try.prog.info? (Try.prog.elem 51)).map (·.size) = some headK.sz := by kernel_rfl

def PopPost (B : Nat) (F : Nat → Prop) (m : Nat) (v : Value) (l : List Hd) (n : Nat) (w : World) (x : Ending) (w' : World) : Prop :=
  ∃ y v', x = .returned y ∧ Hv B F w' m v' (l.take n) ∧ v'.ownBlock = v.ownBlock ∧ Wrote (fun k => k = m) w w'

set_option maxRecDepth 100000 in
set_option maxHeartbeats 1000000 in
theorem mpop_any (h : Hv B F w m v l) (n : Nat) (hn : l.length = n + 1) (hlen : n ≤ 1000000) :
    Calls Try.prog 104 #[.pointer (some ⟨m, 0, none⟩)] w (PopPost B F m v l n w) := by
  obtain ⟨v', hr, ho', hob, a', c', ev'⟩ := h.own.slice_h under_heads size_heads n (by omega)
  obtain ⟨g, cap, rfl, _, hg, hf, hc⟩ := hds_at h.own (by omega)
  obtain ⟨u, hu, c0, c1⟩ := hc n (by omega)
  obtain ⟨ua, uc, rfl⟩ := hu.isSlice
  have HH := Lib.hid h
  have k0 : w.cell? ⟨m, 0, none⟩ = some (.slice (some ⟨g, 0, none⟩) l.length cap) := h.cell
  obtain ⟨K, hK⟩ : ∃ K, l.length = K := ⟨_, rfl⟩
  rw [hK] at k0 hr hn
  have HKK := Lib.hid hK
  have HO := Lib.hid hob
  have HN := Lib.hid hn
  have HRO := Lib.hid ho'
  generalize (hat l n).no = p at *
  generalize (hat l n).l.length = q at *
  have hne : g ≠ m := fun e => h.ne (by rw [e]; rfl)
  have HK : Hid (w.drew.cell? ⟨m, 0, none⟩ = some (.slice (some ⟨g, 0, none⟩) K cap) ∧ w.drew.cell? ⟨g, n * 2, none⟩ = some (.slice ua q uc) ∧ w.drew.cell? ⟨g, n * 2 + 1, none⟩ = some (.int .i64 p)) := ⟨k0, c0, c1⟩
  have HZ : Hid (m < w.drew.heap.size ∧ g < w.drew.heap.size) := ⟨h.blk.lt, hg⟩
  have HR := Lib.hid hr
  have t1 : IntKind.i64.wrap ((K : Int) - 1) = (n : Int) := by rw [wrap_small (by omega) (by omega)]; omega
  have t2 : (n : Int) < (K : Int) := by omega
  have t3 : 0 ≤ (n : Int) := by omega
  have z1 : w.heap.size ≠ m := World.new_ne w ⟨m, 0, none⟩ k0
  have z2 : w.heap.size ≠ g := World.new_ne w ⟨g, n * 2, none⟩ c0
  clear hc hf hu hg hob hn hK ho' hr h
  go_enter Try.func104, Try.ntmps104
  go_wp2_with fail
  go_region_held3 (fun w' => w'.cell? ⟨m, 0, none⟩ = some (.slice (some ⟨g, 0, none⟩) K cap) ∧ w'.cell? ⟨g, n * 2, none⟩ = some (.slice ua q uc) ∧ w'.cell? ⟨g, n * 2 + 1, none⟩ = some (.int .i64 p))
    (first | exact HK.out | go_keep)
    (fail)
  go_upto_region 2 with fail
  refine wp_gen fun w1 hw1 => ?_
  have HW1 : Hid (Below w.heap.size w w1) := by
    rw [hw1]
    exact below_drew ((Below.refl _ _).alloc (Nat.le_refl _) _)
  have HC1 : Hid (Blk w1 w.heap.size #[.slice ua q uc, .int .i64 p] 80) := by
    rw [hw1]
    exact Blk.alloc_new w _ _
  clear hw1 z1 z2 k0 c0 c1
  have HV1 := Lib.hid (HH.out.below HW1.out)
  have j0 : w1.cell? ⟨m, 0, none⟩ = some (.slice (some ⟨g, 0, none⟩) K cap) := by rw [← HKK.out]; exact HV1.out.cell
  have f0 : w1.frozen? ⟨m, 0, none⟩ = false := HV1.out.blk.free 0
  have hr := HR.out
  subst ev'
  clear HK HR
  go_region_law fail
  all_goals
    clear hr t1 t2 t3
    go_upto_region 3 with fail
    refine wp_gen fun w2 hw2 => ?_
    have HC2 : Hid (Blk w2 w.heap.size #[.slice ua q uc, .int .i64 p] 80) := by
      rw [hw2]
      exact HC1.out.set_other _ _ (by show m ≠ w.heap.size; have := HZ.out.1; simp at this; omega)
    have HV2 : Hid (Hv B F w2 m (.slice a' n c') (l.take n)) := by
      rw [hw2]
      refine ⟨(HV1.out.blk.set 0 _), ?_, ?_, HV1.out.nm⟩
      · refine (HRO.out.below HW1.out).keep fun k _ hk => heap_setCell_other _ _ _ _ fun e => ?_
        rcases hk with hk | hk
        · rw [HO.out] at hk; exact HV1.out.ne (by rw [hk, e])
        · exact HV1.out.nm (by rw [← show k = m from e]; exact hk.1)
      · rw [HO.out]; exact HV1.out.ne
    have HW2 : Hid (Wrote (fun k => k = m) w w2) := by
      rw [hw2]
      exact Wrote.drew (Wrote.setCell (S := fun k => k = m) (Wrote.of_below HW1.out) ⟨m, 0, none⟩ _ (.inl rfl))
    clear hw2 j0 f0
    have k0 : w2.cell? ⟨w.heap.size, 0, none⟩ = some (.slice ua q uc) := HC2.out.cell rfl
    have k1 : w2.cell? ⟨w.heap.size, 1, none⟩ = some (.int .i64 p) := HC2.out.cell rfl
    go_wp2_with fail
    go_ret
    exact ⟨_, _, rfl, HV2.out, HO.out, HW2.out⟩
end
end Go.Proofs.Ytmpapipobjoboaa
