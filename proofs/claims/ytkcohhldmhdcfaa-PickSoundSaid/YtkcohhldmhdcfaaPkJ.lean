/- Chapter 14's law: its small functions, the chapter's examples. -/
import Derived.Test.YtkcohhldmhdcfaaPkI
import Derived.Test.YtkcohhldmhdcfaaVeZa
namespace Go.Proofs.Ytkcohhldmhdcfaa
open Go.RowKit

/-- A file of the law's. -/
def lf (n size : Int) (ks vs : List UInt8) : Fil := ⟨n, size, ks, vs, 1, 1⟩
def lv (zero one : List Fil) : Ver := ⟨[zero, one, [], [], []], 9, 0, 0⟩
def stp0 : Stp := ⟨2, 100, 10⟩
set_option maxRecDepth 100000 in
theorem pfile_any (n size : Int) (ks vs : List UInt8) (w : World) (h1 : ks.length ≤ 1000) (h2 : vs.length ≤ 1000) (hn : u64In n) (hs : i64In size) :
    Calls Try.prog 18 #[.int .u64 n, .int .i64 size, .string ⟨ks.toArray⟩, .string ⟨vs.toArray⟩] w fun x w' =>
      ∃ vk vv, x = .returned (.agg (filCells (lf n size ks vs) vk vv).toArray) ∧ Bytes (fun k => w.heap.size ≤ k) w' vk ks ∧ Bytes (fun k => w.heap.size ≤ k) w' vv vs ∧ Below w.heap.size w w' := by
  have hconv := fun (w : World) (s : ByteArray) => run_bytes_of_string (P := Try.prog) w 9 34 5 s Try.underlying9 Try.underlying34 Try.underlying5
  go_enter Try.func18, Try.ntmps18
  go_wp2_with (with_reducible refine pause_store ?_)
  refine list_gen fun W hW => ?_
  have hge : ∀ (w : World) (n : Nat), n ≤ 1000 → n ≤ grownCap w n 0 5 ∧ grownCap w n 0 5 ≤ maxLen := fun w n hn => ⟨grownCap_ge w n 0 _, grownCap_le_maxLen w n 0 _ (by simp only [maxLen]; omega)⟩
  generalize hc1 : grownCap _ ks.length 0 _ = c1 at hW ⊢
  generalize hc2 : grownCap _ vs.length 0 _ = c2 at hW ⊢
  have hb1 : ks.length ≤ c1 ∧ c1 ≤ maxLen := by rw [← hc1]; exact hge _ _ h1
  have hb2 : vs.length ≤ c2 ∧ c2 ≤ maxLen := by rw [← hc2]; exact hge _ _ h2
  have HB : Hid (Below w.heap.size w W) := by rw [hW]; first | exact below_three _ _ _ _ | exact below_drew (below_three _ _ _ _) | exact below_drew (below_drew (below_three _ _ _ _))
  have HR : Hid (Blk W w.heap.size zeroFil.cells 42) := by rw [hW]; exact heap_three_0 _ _ _ _
  have HK : Hid (Bytes (fun k => k = w.heap.size + 1) W (.slice (some ⟨w.heap.size + 1, 0, none⟩) ks.length c1) ks) := bytes_conv ks (by rw [hW]; exact heap_three_1 _ _ _ _) hb1.1 hb1.2
  have HV : Hid (Bytes (fun k => k = w.heap.size + 1 + 1) W (.slice (some ⟨w.heap.size + 1 + 1, 0, none⟩) vs.length c2) vs) := bytes_conv vs (by rw [hW]; exact heap_three_2 _ _ _ _) hb2.1 hb2.2
  have HWF : Hid (lf n size ks vs).wf := ⟨hn, hs, ⟨by show (-9223372036854775808 : Int) ≤ 1; decide, by show (1 : Int) ≤ 9223372036854775807; decide⟩, u64_1⟩
  clear hW hge hc1 hc2 hb1 hb2 hconv
  refine Pause.go (wpList_store_agg rfl _ _ _ rfl w.heap.size 0 rfl _ rfl _ _ HR.out (by kernel_rfl) (by simp [zeroFil, Value.cells]) (filK.one (w := W) (x := lf n size ks vs) (F := fun _ => True) ⟨_, _, rfl, HK.out.mono fun _ _ _ => trivial, HV.out.mono fun _ _ _ => trivial, HWF.out⟩) ?_)
  rw [over_all zeroFil.cells _ (by simp [zeroFil, Value.cells])]
  refine list_gen fun W6 hW6 => ?_
  have HR6 : Hid (Blk W6 w.heap.size (filCells (lf n size ks vs) (.slice (some ⟨w.heap.size + 1, 0, none⟩) ks.length c1) (.slice (some ⟨w.heap.size + 1 + 1, 0, none⟩) vs.length c2)).toArray 42) := by rw [hW6]; exact HR.out.row _
  have HW6 : Hid (Below w.heap.size w W6) := by rw [hW6]; exact below_setRow HB.out (Nat.le_refl _) _
  have HK6 : Hid (Bytes (fun k => w.heap.size ≤ k) W6 (.slice (some ⟨w.heap.size + 1, 0, none⟩) ks.length c1) ks) := by
    rw [hW6]
    exact (HK.out.keep fun k _ hk => setRow_other W w.heap.size k _ (by omega)).mono fun k _ hk => by omega
  have HV6 : Hid (Bytes (fun k => w.heap.size ≤ k) W6 (.slice (some ⟨w.heap.size + 1 + 1, 0, none⟩) vs.length c2) vs) := by
    rw [hW6]
    exact (HV.out.keep fun k _ hk => setRow_other W w.heap.size k _ (by omega)).mono fun k _ hk => by omega
  clear hW6
  go_wp2_with fail
  refine bodyPost_ret (results_cell1 (p := 8) rfl _ _ w.heap.size 42 (filCells (lf n size ks vs) (.slice (some ⟨w.heap.size + 1, 0, none⟩) ks.length c1) (.slice (some ⟨w.heap.size + 1 + 1, 0, none⟩) vs.length c2)).toArray _ rfl HR6.out Try.underlying42 rfl (by kernel_rfl)) rfl ?_
  exact ⟨_, _, rfl, HK6.out, HV6.out, HW6.out⟩


set_option maxRecDepth 100000 in
theorem pversion_any (zero one : List Fil) (vz vo : Value) (w : World) (h1 : Rw filK Any w vz zero) (h2 : Rw filK Any w vo one) :
    Calls Try.prog 17 #[vz, vo] w fun x w' =>
      ∃ b, x = .returned (.agg (verCells (lv zero one) (.slice (some ⟨b, 0, none⟩) 5 5)).toArray) ∧ Rw (rowK filK) Any w' (.slice (some ⟨b, 0, none⟩) 5 5) (lv zero one).levels ∧ Below w.heap.size w w' := by
  obtain ⟨za, zc, rfl⟩ := h1.isSlice
  obtain ⟨oa, oc, rfl⟩ := h2.isSlice
  have H1 := Lib.hid h1
  have H2 := Lib.hid h2
  clear h1 h2
  go_enter Try.func17, Try.ntmps17
  go_wp2_with fail
  refine bodyPost_ret (results_cell1 (p := 4) rfl _ _ w.heap.size 25 (verCells (lv zero one) (.slice (some ⟨w.heap.size + 1, 0, none⟩) 5 5)).toArray _ rfl ?_ Try.underlying25 rfl (by kernel_rfl)) rfl ?_
  · exact (Blk.at_new rfl rfl).alloc _
  · have hb := below_two w (.cells (verCells (lv zero one) (.slice (some ⟨w.heap.size + 1, 0, none⟩) 5 5)).toArray 25) (.cells #[.slice za zero.length zc, .slice oa one.length oc, .slice none 0 0, .slice none 0 0, .slice none 0 0] 33)
    exact ⟨_, rfl, (rw_lit (K := rowK filK) (F := Any) (n := 5) (xs := [zero, one, [], [], []]) (blk_two _ _ _ _) ⟨⟨_, rfl, H1.out.below hb⟩, ⟨_, rfl, H2.out.below hb⟩, ⟨_, rfl, Rw.nil _ _ _⟩, ⟨_, rfl, Rw.nil _ _ _⟩, ⟨_, rfl, Rw.nil _ _ _⟩, rfl⟩ rfl (by decide)).any, hb⟩

set_option maxRecDepth 100000 in
theorem psetup_any (w : World) :
    Calls Try.prog 20 #[] w fun x w' => x = .returned (.agg (stpCells stp0).toArray) ∧ Below w.heap.size w w' := by
  go_enter Try.func20, Try.ntmps20
  go_wp2_with fail
  refine bodyPost_ret (results_cell1 (p := 0) rfl _ _ w.heap.size 27 (stpCells stp0).toArray _ rfl (Blk.at_new rfl rfl) Try.underlying27 rfl (by kernel_rfl)) rfl ?_
  exact ⟨rfl, (Below.refl _ _).alloc (Nat.le_refl _) _⟩
end Go.Proofs.Ytkcohhldmhdcfaa
