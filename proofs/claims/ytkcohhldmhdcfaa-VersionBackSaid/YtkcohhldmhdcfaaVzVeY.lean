/- Chapter 12: version.First; the law's file and add. -/
import Derived.Test.YtkcohhldmhdcfaaVzVeX
namespace Go.Proofs.Ytkcohhldmhdcfaa
open Go.RowKit

def firstV : Ver := ⟨[[], [], [], [], []], 1, 0, 0⟩
/-- A file of the law's. -/
def lfil (n : Int) (ks vs : List UInt8) : Fil := ⟨n, 100, ks, vs, 1, 1⟩
/-- An edit that adds a file at level 1. -/
def addE (next : Int) (f : Fil) : Edi := ⟨[], [(1, f)], next, 0, 0⟩
theorem nil5_rows {w : World} {b : Nat} (hb : Blk w b nil5.toArray 33) : Rw (rowK filK) Any w (.slice (some ⟨b, 0, none⟩) 5 5) [[], [], [], [], []] :=
  (rw_lit (K := rowK filK) (F := Any) (n := 5) (xs := [[], [], [], [], []]) hb ⟨⟨_, rfl, Rw.nil _ _ _⟩, ⟨_, rfl, Rw.nil _ _ _⟩, ⟨_, rfl, Rw.nil _ _ _⟩, ⟨_, rfl, Rw.nil _ _ _⟩, ⟨_, rfl, Rw.nil _ _ _⟩, rfl⟩ rfl (by decide)).any

set_option maxRecDepth 100000 in
theorem first_any (w : World) :
    Calls Try.prog 29 #[] w fun e w' => ∃ b, e = .returned (.agg (verCells firstV (.slice (some ⟨b, 0, none⟩) 5 5)).toArray) ∧ Rw (rowK filK) Any w' (.slice (some ⟨b, 0, none⟩) 5 5) firstV.levels ∧ Below w.heap.size w w' := by
  have HMK := make_rows5
  go_enter Try.func29, Try.ntmps29
  go_wp2_with fail
  refine bodyPost_ret (results_cell1 (p := 0) rfl _ _ w.heap.size 25 (verCells firstV (.slice (some ⟨w.heap.size + 1, 0, none⟩) 5 5)).toArray _ rfl ?_ Try.underlying25 rfl (by kernel_rfl)) rfl ?_
  · exact (Blk.at_new rfl rfl).alloc _
  · exact ⟨_, rfl, nil5_rows (blk_two _ _ _ _), below_two _ _ _⟩

set_option maxRecDepth 100000 in
theorem lfile_any (n : Int) (ks vs : List UInt8) (w : World) (h1 : ks.length ≤ 1000) (h2 : vs.length ≤ 1000) (hn : u64In n) :
    Calls Try.prog 31 #[.int .u64 n, .string ⟨ks.toArray⟩, .string ⟨vs.toArray⟩] w fun x w' =>
      ∃ vk vv, x = .returned (.agg (filCells (lfil n ks vs) vk vv).toArray) ∧ Bytes (fun k => w.heap.size ≤ k) w' vk ks ∧ Bytes (fun k => w.heap.size ≤ k) w' vv vs ∧ Below w.heap.size w w' := by
  have hconv := fun (w : World) (s : ByteArray) => run_bytes_of_string (P := Try.prog) w 9 34 5 s Try.underlying9 Try.underlying34 Try.underlying5
  go_enter Try.func31, Try.ntmps31
  go_wp2_with (with_reducible refine pause_store ?_)
  refine list_gen fun W hW => ?_
  have hge : ∀ (w : World) (n : Nat), n ≤ 1000 → n ≤ grownCap w n 0 5 ∧ grownCap w n 0 5 ≤ maxLen := fun w n hn => ⟨grownCap_ge w n 0 _, grownCap_le_maxLen w n 0 _ (by simp only [maxLen]; omega)⟩
  generalize hc1 : grownCap _ ks.length 0 _ = c1 at hW ⊢
  generalize hc2 : grownCap _ vs.length 0 _ = c2 at hW ⊢
  have hb1 : ks.length ≤ c1 ∧ c1 ≤ maxLen := by rw [← hc1]; exact hge _ _ h1
  have hb2 : vs.length ≤ c2 ∧ c2 ≤ maxLen := by rw [← hc2]; exact hge _ _ h2
  have HB : Hid (Below w.heap.size w W) := by rw [hW]; first | exact below_three _ _ _ _ | exact below_drew (below_three _ _ _ _) | exact below_drew (below_drew (below_three _ _ _ _))
  have HR : Hid (Blk W w.heap.size zeroFil.cells 42) := by rw [hW]; exact heap_three_0 _ _ _ _
  have HK : Hid (Bytes (fun k => k = w.heap.size + 1) W (.slice (some ⟨w.heap.size + 1, 0, none⟩) ks.length c1) ks) := bytes_conv ks (by rw [hW]; exact heap_three_1 _ _ _ _) hb1.1 hb1.2
  have HV : Hid (Bytes (fun k => k = w.heap.size + 1 + 1) W (.slice (some ⟨w.heap.size + 1 + 1, 0, none⟩) vs.length c2) vs) := bytes_conv vs (by rw [hW]; exact heap_three_2 _ _ _ _) hb2.1 hb2.2
  have HWF : Hid (lfil n ks vs).wf := ⟨hn, ⟨by show (-9223372036854775808 : Int) ≤ 100; decide, by show (100 : Int) ≤ 9223372036854775807; decide⟩, ⟨by show (-9223372036854775808 : Int) ≤ 1; decide, by show (1 : Int) ≤ 9223372036854775807; decide⟩, ⟨by show (0 : Int) ≤ 1; decide, by show (1 : Int) < 18446744073709551616; decide⟩⟩
  clear hW hge hc1 hc2 hb1 hb2 hconv
  refine Pause.go (wpList_store_agg rfl _ _ _ rfl w.heap.size 0 rfl _ rfl _ _ HR.out (by kernel_rfl) (by simp [zeroFil, Value.cells]) (filK.one (w := W) (x := lfil n ks vs) (F := fun _ => True) ⟨_, _, rfl, HK.out.mono fun _ _ _ => trivial, HV.out.mono fun _ _ _ => trivial, HWF.out⟩) ?_)
  rw [over_all zeroFil.cells _ (by simp [zeroFil, Value.cells])]
  refine list_gen fun W6 hW6 => ?_
  have HR6 : Hid (Blk W6 w.heap.size (filCells (lfil n ks vs) (.slice (some ⟨w.heap.size + 1, 0, none⟩) ks.length c1) (.slice (some ⟨w.heap.size + 1 + 1, 0, none⟩) vs.length c2)).toArray 42) := by rw [hW6]; exact HR.out.row _
  have HW6 : Hid (Below w.heap.size w W6) := by rw [hW6]; exact below_setRow HB.out (Nat.le_refl _) _
  have HK6 : Hid (Bytes (fun k => w.heap.size ≤ k) W6 (.slice (some ⟨w.heap.size + 1, 0, none⟩) ks.length c1) ks) := by
    rw [hW6]
    exact (HK.out.keep fun k _ hk => setRow_other W w.heap.size k _ (by omega)).mono fun k _ hk => by omega
  have HV6 : Hid (Bytes (fun k => w.heap.size ≤ k) W6 (.slice (some ⟨w.heap.size + 1 + 1, 0, none⟩) vs.length c2) vs) := by
    rw [hW6]
    exact (HV.out.keep fun k _ hk => setRow_other W w.heap.size k _ (by omega)).mono fun k _ hk => by omega
  clear hW6
  go_wp2_with fail
  refine bodyPost_ret (results_cell1 (p := 6) rfl _ _ w.heap.size 42 (filCells (lfil n ks vs) (.slice (some ⟨w.heap.size + 1, 0, none⟩) ks.length c1) (.slice (some ⟨w.heap.size + 1 + 1, 0, none⟩) vs.length c2)).toArray _ rfl HR6.out Try.underlying42 rfl (by kernel_rfl)) rfl ?_
  exact ⟨_, _, rfl, HK6.out, HV6.out, HW6.out⟩

set_option maxRecDepth 100000 in
theorem ladd_any (next : Int) (f : Fil) (vk vv : Value) (w : World) (h1 : Bytes Any w vk f.least) (h2 : Bytes Any w vv f.most) (hf : f.wf) (hn : u64In next) :
    Calls Try.prog 30 #[.int .u64 next, .agg (filCells f vk vv).toArray] w fun x w' =>
      ∃ b, x = .returned (.agg (ediCells (addE next f) (.slice none 0 0) (.slice (some ⟨b, 0, none⟩) 1 1)).toArray) ∧ EdiAt Any w' (addE next f) (.slice none 0 0) (.slice (some ⟨b, 0, none⟩) 1 1) ∧ Below w.heap.size w w' := by
  obtain ⟨ka, kc, rfl⟩ := h1.isSlice
  obtain ⟨va, vc, rfl⟩ := h2.isSlice
  have H1 := Lib.hid h1
  have H2 := Lib.hid h2
  have HF := Lib.hid hf
  have HN := Lib.hid hn
  clear h1 h2 hf hn
  unfold filCells
  go_enter Try.func30, Try.ntmps30
  go_wp2_with fail
  refine bodyPost_ret (results_cell1 (p := 4) rfl _ _ (w.heap.size + 1) 57 (ediCells (addE next f) (.slice none 0 0) (.slice (some ⟨w.heap.size + 1 + 1, 0, none⟩) 1 1)).toArray _ rfl (heap_three_1 _ _ _ _) Try.underlying57 rfl (by kernel_rfl)) rfl ?_
  have hb := below_three w (.cells #[.int .u64 f.num, .int .i64 f.size, .slice ka f.least.length kc, .slice va f.most.length vc, .int .i64 f.ents, .int .u64 f.mseq] 42) (.cells (ediCells (addE next f) (.slice none 0 0) (.slice (some ⟨w.heap.size + 1 + 1, 0, none⟩) 1 1)).toArray 57) (.cells (addCells 1 f (.slice ka f.least.length kc) (.slice va f.most.length vc)).toArray 104)
  refine ⟨_, rfl, ⟨Rw.nil _ _ _, ?_, HN.out, ⟨by show (0 : Int) ≤ 0; decide, by show (0 : Int) < 18446744073709551616; decide⟩, ⟨by show (0 : Int) ≤ 0; decide, by show (0 : Int) < 18446744073709551616; decide⟩⟩, hb⟩
  exact (rw_lit (K := addK) (F := Any) (n := 1) (xs := [(1, f)]) (T := 104) (c := (addCells 1 f (.slice ka f.least.length kc) (.slice va f.most.length vc)).toArray) (heap_three_2 _ _ _ _) ⟨⟨_, _, rfl, ⟨by show (-9223372036854775808 : Int) ≤ 1; decide, by show (1 : Int) ≤ 9223372036854775807; decide⟩, H1.out.below hb, H2.out.below hb, HF.out⟩, rfl⟩ rfl (by decide)).any
end Go.Proofs.Ytkcohhldmhdcfaa
