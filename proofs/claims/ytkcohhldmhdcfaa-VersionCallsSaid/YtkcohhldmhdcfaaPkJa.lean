/- Chapter 14's law: its small functions, the chapter's examples. Chapter 14: the chapter's examples, plain. Chapter 14's law: lives. The law PickNames: its walk. -/
import Derived.Test.YtkcohhldmhdcfaaPkI
import Derived.Test.YtkcohhldmhdcfaaVeZa
namespace Go.Proofs.Ytkcohhldmhdcfaa
open Go.RowKit

/-- A file of the law's. -/
def lf (n size : Int) (ks vs : List UInt8) : Fil := ⟨n, size, ks, vs, 1, 1⟩
def lv (zero one : List Fil) : Ver := ⟨[zero, one, [], [], []], 9, 0, 0⟩
def stp0 : Stp := ⟨2, 100, 10⟩
set_option maxRecDepth 100000 in
theorem pfile_any (n size : Int) (ks vs : List UInt8) (w : World) (h1 : ks.length ≤ 1000) (h2 : vs.length ≤ 1000) (hn : u64In n) (hs : i64In size) :
    Calls Try.prog 18 #[.int .u64 n, .int .i64 size, .string ⟨ks.toArray⟩, .string ⟨vs.toArray⟩] w fun x w' =>
      ∃ vk vv, x = .returned (.agg (filCells (lf n size ks vs) vk vv).toArray) ∧ Bytes (fun k => w.heap.size ≤ k) w' vk ks ∧ Bytes (fun k => w.heap.size ≤ k) w' vv vs ∧ Below w.heap.size w w' := by
  have hconv := fun (w : World) (s : ByteArray) => run_bytes_of_string (P := Try.prog) w 9 34 5 s Try.underlying9 Try.underlying34 Try.underlying5
  go_enter Try.func18, Try.ntmps18
  go_wp2_with (with_reducible refine pause_store ?_)
  refine list_gen fun W hW => ?_
  have hge : ∀ (w : World) (n : Nat), n ≤ 1000 → n ≤ grownCap w n 0 5 ∧ grownCap w n 0 5 ≤ maxLen := fun w n hn => ⟨grownCap_ge w n 0 _, grownCap_le_maxLen w n 0 _ (by simp only [maxLen]; omega)⟩
  generalize hc1 : grownCap _ ks.length 0 _ = c1 at hW ⊢
  generalize hc2 : grownCap _ vs.length 0 _ = c2 at hW ⊢
  have hb1 : ks.length ≤ c1 ∧ c1 ≤ maxLen := by rw [← hc1]; exact hge _ _ h1
  have hb2 : vs.length ≤ c2 ∧ c2 ≤ maxLen := by rw [← hc2]; exact hge _ _ h2
  have HB : Hid (Below w.heap.size w W) := by rw [hW]; first | exact below_three _ _ _ _ | exact below_drew (below_three _ _ _ _) | exact below_drew (below_drew (below_three _ _ _ _))
  have HR : Hid (Blk W w.heap.size zeroFil.cells 42) := by rw [hW]; exact heap_three_0 _ _ _ _
  have HK : Hid (Bytes (fun k => k = w.heap.size + 1) W (.slice (some ⟨w.heap.size + 1, 0, none⟩) ks.length c1) ks) := bytes_conv ks (by rw [hW]; exact heap_three_1 _ _ _ _) hb1.1 hb1.2
  have HV : Hid (Bytes (fun k => k = w.heap.size + 1 + 1) W (.slice (some ⟨w.heap.size + 1 + 1, 0, none⟩) vs.length c2) vs) := bytes_conv vs (by rw [hW]; exact heap_three_2 _ _ _ _) hb2.1 hb2.2
  have HWF : Hid (lf n size ks vs).wf := ⟨hn, hs, ⟨by show (-9223372036854775808 : Int) ≤ 1; decide, by show (1 : Int) ≤ 9223372036854775807; decide⟩, u64_1⟩
  clear hW hge hc1 hc2 hb1 hb2 hconv
  refine Pause.go (wpList_store_agg rfl _ _ _ rfl w.heap.size 0 rfl _ rfl _ _ HR.out (by kernel_rfl) (by simp [zeroFil, Value.cells]) (filK.one (w := W) (x := lf n size ks vs) (F := fun _ => True) ⟨_, _, rfl, HK.out.mono fun _ _ _ => trivial, HV.out.mono fun _ _ _ => trivial, HWF.out⟩) ?_)
  rw [over_all zeroFil.cells _ (by simp [zeroFil, Value.cells])]
  refine list_gen fun W6 hW6 => ?_
  have HR6 : Hid (Blk W6 w.heap.size (filCells (lf n size ks vs) (.slice (some ⟨w.heap.size + 1, 0, none⟩) ks.length c1) (.slice (some ⟨w.heap.size + 1 + 1, 0, none⟩) vs.length c2)).toArray 42) := by rw [hW6]; exact HR.out.row _
  have HW6 : Hid (Below w.heap.size w W6) := by rw [hW6]; exact below_setRow HB.out (Nat.le_refl _) _
  have HK6 : Hid (Bytes (fun k => w.heap.size ≤ k) W6 (.slice (some ⟨w.heap.size + 1, 0, none⟩) ks.length c1) ks) := by
    rw [hW6]
    exact (HK.out.keep fun k _ hk => setRow_other W w.heap.size k _ (by omega)).mono fun k _ hk => by omega
  have HV6 : Hid (Bytes (fun k => w.heap.size ≤ k) W6 (.slice (some ⟨w.heap.size + 1 + 1, 0, none⟩) vs.length c2) vs) := by
    rw [hW6]
    exact (HV.out.keep fun k _ hk => setRow_other W w.heap.size k _ (by omega)).mono fun k _ hk => by omega
  clear hW6
  go_wp2_with fail
  refine bodyPost_ret (results_cell1 (p := 8) rfl _ _ w.heap.size 42 (filCells (lf n size ks vs) (.slice (some ⟨w.heap.size + 1, 0, none⟩) ks.length c1) (.slice (some ⟨w.heap.size + 1 + 1, 0, none⟩) vs.length c2)).toArray _ rfl HR6.out Try.underlying42 rfl (by kernel_rfl)) rfl ?_
  exact ⟨_, _, rfl, HK6.out, HV6.out, HW6.out⟩


set_option maxRecDepth 100000 in
theorem pversion_any (zero one : List Fil) (vz vo : Value) (w : World) (h1 : Rw filK Any w vz zero) (h2 : Rw filK Any w vo one) :
    Calls Try.prog 17 #[vz, vo] w fun x w' =>
      ∃ b, x = .returned (.agg (verCells (lv zero one) (.slice (some ⟨b, 0, none⟩) 5 5)).toArray) ∧ Rw (rowK filK) Any w' (.slice (some ⟨b, 0, none⟩) 5 5) (lv zero one).levels ∧ Below w.heap.size w w' := by
  obtain ⟨za, zc, rfl⟩ := h1.isSlice
  obtain ⟨oa, oc, rfl⟩ := h2.isSlice
  have H1 := Lib.hid h1
  have H2 := Lib.hid h2
  clear h1 h2
  go_enter Try.func17, Try.ntmps17
  go_wp2_with fail
  refine bodyPost_ret (results_cell1 (p := 4) rfl _ _ w.heap.size 25 (verCells (lv zero one) (.slice (some ⟨w.heap.size + 1, 0, none⟩) 5 5)).toArray _ rfl ?_ Try.underlying25 rfl (by kernel_rfl)) rfl ?_
  · exact (Blk.at_new rfl rfl).alloc _
  · have hb := below_two w (.cells (verCells (lv zero one) (.slice (some ⟨w.heap.size + 1, 0, none⟩) 5 5)).toArray 25) (.cells #[.slice za zero.length zc, .slice oa one.length oc, .slice none 0 0, .slice none 0 0, .slice none 0 0] 33)
    exact ⟨_, rfl, (rw_lit (K := rowK filK) (F := Any) (n := 5) (xs := [zero, one, [], [], []]) (blk_two _ _ _ _) ⟨⟨_, rfl, H1.out.below hb⟩, ⟨_, rfl, H2.out.below hb⟩, ⟨_, rfl, Rw.nil _ _ _⟩, ⟨_, rfl, Rw.nil _ _ _⟩, ⟨_, rfl, Rw.nil _ _ _⟩, rfl⟩ rfl (by decide)).any, hb⟩

set_option maxRecDepth 100000 in
theorem psetup_any (w : World) :
    Calls Try.prog 20 #[] w fun x w' => x = .returned (.agg (stpCells stp0).toArray) ∧ Below w.heap.size w w' := by
  go_enter Try.func20, Try.ntmps20
  go_wp2_with fail
  refine bodyPost_ret (results_cell1 (p := 0) rfl _ _ w.heap.size 27 (stpCells stp0).toArray _ rfl (Blk.at_new rfl rfl) Try.underlying27 rfl (by kernel_rfl)) rfl ?_
  exact ⟨rfl, (Below.refl _ _).alloc (Nat.le_refl _) _⟩
end Go.Proofs.Ytkcohhldmhdcfaa

namespace Go.Proofs.Ytkcohhldmhdcfaa
open Go.RowKit

def p1 : Fil := lf 1 9 [97] [99]
def p2 : Fil := lf 2 9 [120] [122]
def p3 : Fil := lf 2 9 [98] [100]
def p4 : Fil := lf 3 9 [100] [101]
def p5 : Fil := lf 1 250 [97] [98]
def p6 : Fil := lf 1 99 [97] [98]
def q1 : Ver := lv [p1, p2] []
def q2 : Ver := lv [p1, p3, p4] []
def q3 : Ver := lv [] [p5]
def q4 : Ver := lv [] [p6]
theorem wf_lf {n size : Int} {ks vs : List UInt8} (hn : u64In n) (hs : i64In size) : (lf n size ks vs).wf := ⟨hn, hs, ⟨by show (-9223372036854775808 : Int) ≤ 1; decide, by show (1 : Int) ≤ 9223372036854775807; decide⟩, u64_1⟩
theorem i64_9 : i64In 9 := ⟨by decide, by decide⟩
theorem i64_99 : i64In 99 := ⟨by decide, by decide⟩
theorem i64_250 : i64In 250 := ⟨by decide, by decide⟩
theorem u64_9 : u64In 9 := ⟨by decide, by decide⟩
theorem chk_q1 : chkW q1 = 0 := chkW_few ⟨rfl, by decide, by decide, by decide, by decide⟩ (by decide +kernel) (fun i hi f hf => by
  match i, hi with
  | 1, _ | 2, _ | 3, _ | 4, _ => cases hf
  | 0, _ =>
    have : f = p1 ∨ f = p2 := by simpa [q1, lv, lat] using hf
    rcases this with rfl | rfl
    · exact wf_lf u64_1 i64_9
    · exact wf_lf u64_2 i64_9) ⟨u64_9, u64_0, u64_0⟩ (by decide)
theorem chk_q2 : chkW q2 = 0 := chkW_few ⟨rfl, by decide, by decide, by decide, by decide⟩ (by decide +kernel) (fun i hi f hf => by
  match i, hi with
  | 1, _ | 2, _ | 3, _ | 4, _ => cases hf
  | 0, _ =>
    have : f = p1 ∨ f = p3 ∨ f = p4 := by simpa [q2, lv, lat] using hf
    rcases this with rfl | rfl | rfl
    · exact wf_lf u64_1 i64_9
    · exact wf_lf u64_2 i64_9
    · exact wf_lf u64_3 i64_9) ⟨u64_9, u64_0, u64_0⟩ (by decide)
theorem chk_q3 : chkW q3 = 0 := chkW_few ⟨rfl, by decide, by decide, by decide, by decide⟩ (by decide +kernel) (fun i hi f hf => by
  match i, hi with
  | 0, _ | 2, _ | 3, _ | 4, _ => cases hf
  | 1, _ =>
    have : f = p5 := by simpa [q3, lv, lat] using hf
    rw [this]
    exact wf_lf u64_1 i64_250) ⟨u64_9, u64_0, u64_0⟩ (by decide)
theorem chk_q4 : chkW q4 = 0 := chkW_few ⟨rfl, by decide, by decide, by decide, by decide⟩ (by decide +kernel) (fun i hi f hf => by
  match i, hi with
  | 0, _ | 2, _ | 3, _ | 4, _ => cases hf
  | 1, _ =>
    have : f = p6 := by simpa [q4, lv, lat] using hf
    rw [this]
    exact wf_lf u64_1 i64_99) ⟨u64_9, u64_0, u64_0⟩ (by decide)
theorem stp0_ok : stpW stp0 = 0 := stpW_yes ⟨by decide, by decide, by decide, by decide, by decide, by decide⟩
theorem bd0 : boundW stp0 0 = 2 := by unfold boundW; rw [if_neg (by simp [stp0_ok]), if_pos rfl]; rfl
theorem bd1 : boundW stp0 1 = 100 := by unfold boundW; rw [if_neg (by simp [stp0_ok]), if_neg (by decide), if_pos rfl]; rfl
theorem bd2 : boundW stp0 2 = 1000 := by unfold boundW; rw [if_neg (by simp [stp0_ok]), if_neg (by decide), if_neg (by decide), if_pos rfl]; rfl
theorem bd3 : boundW stp0 3 = 10000 := by unfold boundW; rw [if_neg (by simp [stp0_ok]), if_neg (by decide), if_neg (by decide), if_neg (by decide), if_pos rfl]; rfl
theorem bd4 : boundW stp0 4 = 0 := by unfold boundW; rw [if_neg (by simp [stp0_ok]), if_neg (by decide), if_neg (by decide), if_neg (by decide), if_neg (by decide)]
/-- A level's score of the law's setup. -/
theorem score_lv {v : Ver} {n0 n1 : Int} (hc : chkW v = 0) (h0 : ((lat v.levels 0).length : Int) = n0) (h1 : bytesTo (lat v.levels 1) (lat v.levels 1).length = n1) (h2 : lat v.levels 2 = []) (h3 : lat v.levels 3 = []) :
    scoreW v stp0 0 = n0 * 100 / 2 ∧ scoreW v stp0 1 = n1 * 100 / 100 ∧ scoreW v stp0 2 = 0 ∧ scoreW v stp0 3 = 0 ∧ scoreW v stp0 4 = 0 := by
  have h5 := (good_small hc).1
  refine ⟨?_, ?_, ?_, ?_, ?_⟩
  · unfold scoreW; rw [show ((0 : Nat) : Int) = 0 from rfl, bd0, if_neg (by decide), if_pos rfl, h0]
  · unfold scoreW
    rw [show ((1 : Nat) : Int) = 1 from rfl, bd1, if_neg (by decide), if_neg (by decide)]
    unfold bytesOfLev
    rw [if_pos ⟨hc, by decide, by rw [h5]; decide⟩, show (1 : Int).toNat = 1 from rfl, h1]
  · unfold scoreW
    rw [bytesOfLev_nil h2]; simp
  · unfold scoreW
    rw [bytesOfLev_nil h3]; simp
  · unfold scoreW
    rw [show ((4 : Nat) : Int) = 4 from rfl, bd4, if_pos rfl]
theorem worst_lv {v : Ver} {n0 n1 : Int} (hc : chkW v = 0) (h0 : ((lat v.levels 0).length : Int) = n0) (h1 : bytesTo (lat v.levels 1) (lat v.levels 1).length = n1) (h2 : lat v.levels 2 = []) (h3 : lat v.levels 3 = []) :
    worstTo v stp0 5 = (let a : Nat × Int := if 0 < n0 * 100 / 2 then (0, n0 * 100 / 2) else (0, 0); let b := if a.2 < n1 * 100 / 100 then (1, n1 * 100 / 100) else a; let c := if b.2 < 0 then (2, 0) else b; let d := if c.2 < 0 then (3, 0) else c; if d.2 < 0 then (4, 0) else d) := by
  obtain ⟨e0, e1, e2, e3, e4⟩ := score_lv hc h0 h1 h2 h3
  simp only [worstTo, e0, e1, e2, e3, e4]
theorem worst_q1 : worstTo q1 stp0 5 = (0, 100) := by rw [worst_lv (n0 := 2) (n1 := 0) chk_q1 rfl (by decide) rfl rfl]; decide
theorem worst_q2 : worstTo q2 stp0 5 = (0, 150) := by rw [worst_lv (n0 := 3) (n1 := 0) chk_q2 rfl (by decide) rfl rfl]; decide
theorem worst_q3 : worstTo q3 stp0 5 = (1, 250) := by rw [worst_lv (n0 := 0) (n1 := 250) chk_q3 rfl (by decide) rfl rfl]; decide
theorem worst_q4 : worstTo q4 stp0 5 = (1, 99) := by rw [worst_lv (n0 := 0) (n1 := 99) chk_q4 rfl (by decide) rfl rfl]; decide
theorem nx_of {v : Ver} {s : Stp} {i : Nat} {n : Int} (hc : chkW v = 0) (hs : stpW s = 0) (hw : worstTo v s 5 = (i, n)) : nextW v s = (if n < 100 then 6 else 0) ∧ jLev v s = i := by
  unfold nextW jLev
  rw [if_neg (by simp [mayW_of hc hs]), hw]
  exact ⟨rfl, rfl⟩
theorem up_q1 : (jUp q1 0).length = 1 := by decide +kernel
theorem up_q2 : (jUp q2 0).length = 3 := by decide +kernel
theorem lo_nil {v : Ver} {i : Nat} (h : lat v.levels (i + 1) = []) : jLo v i = [] := by
  unfold jLo overB
  split
  · rw [show ((i : Int) + 1).toNat = i + 1 by omega, h]; rfl
  · rfl
theorem bot_q3 : jBot q3 1 = true := by
  unfold jBot deepB
  rw [if_pos ⟨chk_q3, by decide⟩]
  unfold clearFrom
  rfl

/-- Next, where the job's measures are known. -/
theorem next_ok {v : Ver} {s : Stp} {i nu nl : Nat} {b : Bool} (h0 : nextW v s = 0) (hi : jLev v s = i) (hU : (jUp v i).length = nu) (hL : (jLo v i).length = nl) (hB : jBot v i = b) (lv : Value) (w : World) (h : Rw (rowK filK) Any w lv v.levels) (hw : v.wf) (hfew : cntTo v.levels v.levels.length ≤ 1000000) :
    Calls Try.prog 13 #[.agg (verCells v lv).toArray, .agg (stpCells s).toArray] w fun x w' => ∃ a1 c1 a2 c2 a3 n3 c3 a4 n4 c4, x = .returned (.tuple #[.agg #[.int .i64 (i : Int), .slice a1 nu c1, .slice a2 nl c2, .slice a3 n3 c3, .slice a4 n4 c4, .bool b], .int .i64 0]) ∧ Below w.heap.size w w' := by
  refine (next_any Any v s lv w h hw hfew).mono fun x w' ⟨_, h2, h3⟩ => ?_
  obtain ⟨u, lo, le, mo, rfl, g1, g2, g3, g4⟩ := h2 h0
  rw [hi] at g1 g2 g3 g4 ⊢
  obtain ⟨a1, c1, rfl⟩ := g1.isSlice
  obtain ⟨a2, c2, rfl⟩ := g2.isSlice
  obtain ⟨a3, c3, rfl⟩ := g3.isSlice
  obtain ⟨a4, c4, rfl⟩ := g4.isSlice
  rw [hU, hL, hB]
  exact ⟨a1, c1, a2, c2, a3, _, c3, a4, _, c4, rfl, h3⟩
theorem next_no {v : Ver} {s : Stp} (c : Int) (h0 : nextW v s = c) (hc : c ≠ 0) (lv : Value) (w : World) (h : Rw (rowK filK) Any w lv v.levels) (hw : v.wf) (hfew : cntTo v.levels v.levels.length ≤ 1000000) :
    Calls Try.prog 13 #[.agg (verCells v lv).toArray, .agg (stpCells s).toArray] w fun x w' => x = .returned (.tuple #[.agg job0.toArray, .int .i64 c]) ∧ Below w.heap.size w w' := by
  refine (next_any Any v s lv w h hw hfew).mono fun x w' ⟨h1, _, h3⟩ => ?_
  rw [h1 (by rw [h0]; exact hc), h0]
  exact ⟨rfl, h3⟩
end Go.Proofs.Ytkcohhldmhdcfaa

namespace Go.Proofs.Ytkcohhldmhdcfaa
open Go.RowKit

theorem files1 {w : World} {b : Nat} {f1 : Fil} {l1 m1 : Value} {T : TypeId} (hb : Blk w b (filCells f1 l1 m1).toArray T) (h1 : Bytes Any w l1 f1.least) (g1 : Bytes Any w m1 f1.most) (e1 : f1.wf) : Rw filK Any w (.slice (some ⟨b, 0, none⟩) 1 1) [f1] :=
  (rw_lit (K := filK) (F := Any) (n := 1) (xs := [f1]) hb ⟨⟨_, _, rfl, h1, g1, e1⟩, rfl⟩ rfl (by decide)).any
theorem files2 {w : World} {b : Nat} {f1 f2 : Fil} {l1 m1 l2 m2 : Value} {T : TypeId} (hb : Blk w b (filCells f1 l1 m1 ++ filCells f2 l2 m2).toArray T) (h1 : Bytes Any w l1 f1.least) (g1 : Bytes Any w m1 f1.most) (e1 : f1.wf) (h2 : Bytes Any w l2 f2.least) (g2 : Bytes Any w m2 f2.most) (e2 : f2.wf) : Rw filK Any w (.slice (some ⟨b, 0, none⟩) 2 2) [f1, f2] :=
  (rw_lit (K := filK) (F := Any) (n := 2) (xs := [f1, f2]) hb ⟨⟨_, _, rfl, h1, g1, e1⟩, ⟨_, _, rfl, h2, g2, e2⟩, rfl⟩ rfl (by decide)).any
theorem files3 {w : World} {b : Nat} {f1 f2 f3 : Fil} {l1 m1 l2 m2 l3 m3 : Value} {T : TypeId} (hb : Blk w b (filCells f1 l1 m1 ++ filCells f2 l2 m2 ++ filCells f3 l3 m3).toArray T) (h1 : Bytes Any w l1 f1.least) (g1 : Bytes Any w m1 f1.most) (e1 : f1.wf) (h2 : Bytes Any w l2 f2.least) (g2 : Bytes Any w m2 f2.most) (e2 : f2.wf) (h3 : Bytes Any w l3 f3.least) (g3 : Bytes Any w m3 f3.most) (e3 : f3.wf) : Rw filK Any w (.slice (some ⟨b, 0, none⟩) 3 3) [f1, f2, f3] :=
  (rw_lit (K := filK) (F := Any) (n := 3) (xs := [f1, f2, f3]) hb ⟨⟨_, _, rfl, h1, g1, e1⟩, ⟨_, _, rfl, h2, g2, e2⟩, ⟨_, _, rfl, h3, g3, e3⟩, rfl⟩ rfl (by decide)).any

set_option maxRecDepth 100000 in
set_option maxHeartbeats 16000000 in
theorem plives_any (w : World) :
    Calls Try.prog 9 #[] w fun x w' => x = .returned (.bool true) ∧ Below w.heap.size w w' := by
  have HB0 : Hid (Below w.heap.size w w) := Below.refl _ _
  go_enter Try.func9, Try.ntmps9
  go_wp2_with fail
  refine Calls.mono (pfile_any 1 9 [97] [99] w (by decide) (by decide) u64_1 i64_9) ?_
  rintro _ w1 ⟨vk, vv, rfl, hk, hv, hb⟩
  obtain ⟨ka0, kc0, rfl⟩ := hk.isSlice
  obtain ⟨va0, vc0, rfl⟩ := hv.isSlice
  have hk0 := hk.any
  have hv0 := hv.any
  clear hk hv
  have HB1 : Hid (Below w.heap.size w w1) := HB0.out.trans (hb.mono HB0.out.size)
  clear hb HB0
  unfold filCells lf
  go_wp2_with fail
  refine Calls.mono (pfile_any 2 9 [120] [122] w1 (by decide) (by decide) u64_2 i64_9) ?_
  rintro _ w2 ⟨vk, vv, rfl, hk, hv, hb⟩
  obtain ⟨ka1, kc1, rfl⟩ := hk.isSlice
  obtain ⟨va1, vc1, rfl⟩ := hv.isSlice
  have hk0 := hk0.below hb
  have hv0 := hv0.below hb
  have hk1 := hk.any
  have hv1 := hv.any
  clear hk hv
  have HB2 : Hid (Below w.heap.size w w2) := HB1.out.trans (hb.mono HB1.out.size)
  clear hb HB1
  unfold filCells lf
  go_wp2_with fail
  refine calls_gen fun w3 hw => ?_
  have hb : Below w2.heap.size w2 w3 := by rw [hw]; exact (Below.refl _ _).alloc (Nat.le_refl _) _
  have HR : Hid (Rw filK Any w3 (.slice (some ⟨w2.heap.size, 0, none⟩) 2 2) [p1, p2]) := files2 (T := 42) (b := w2.heap.size) (show Blk w3 _ (filCells p1 (.slice ka0 1 kc0) (.slice va0 1 vc0) ++ filCells p2 (.slice ka1 1 kc1) (.slice va1 1 vc1)).toArray _ from by rw [hw]; exact Blk.at_new rfl rfl) (hk0.below hb) (hv0.below hb) (wf_lf u64_1 i64_9) (hk1.below hb) (hv1.below hb) (wf_lf u64_2 i64_9)
  clear hw hk0 hv0 hk1 hv1
  generalize hfb : w2.heap.size = fb at HR ⊢
  clear hfb
  have HB3 : Hid (Below w.heap.size w w3) := HB2.out.trans (hb.mono HB2.out.size)
  clear hb HB2
  refine Calls.mono (pversion_any [p1, p2] [] _ _ w3 HR.out (Rw.nil _ _ _)) ?_
  rintro _ w4 ⟨lb, rfl, hl, hb⟩
  have HL := Lib.hid hl
  clear hl HR
  have HB4 : Hid (Below w.heap.size w w4) := HB3.out.trans (hb.mono HB3.out.size)
  clear hb HB3
  unfold verCells lv
  go_wp2_with fail
  refine Calls.mono (psetup_any w4) ?_
  rintro _ w5 ⟨rfl, hb⟩
  have HLn := Lib.hid (HL.out.below hb)
  clear HL
  have HB5 : Hid (Below w.heap.size w w5) := HB4.out.trans (hb.mono HB4.out.size)
  clear hb HB4
  unfold stpCells stp0
  go_wp2_with fail
  refine Calls.mono (next_ok (v := q1) (s := stp0) (i := 0) (nu := 1) (nl := 0) (b := jBot q1 0) ((nx_of chk_q1 stp0_ok worst_q1).1) ((nx_of chk_q1 stp0_ok worst_q1).2) up_q1 (by rw [lo_nil rfl]; rfl) rfl (.slice (some ⟨lb, 0, none⟩) 5 5) w5 HLn.out ⟨u64_9, u64_0, u64_0⟩ (by decide)) ?_
  rintro _ w6 ⟨a1_0, c1_0, a2_0, c2_0, a3_0, n3_0, c3_0, a4_0, n4_0, c4_0, rfl, hb⟩
  clear HLn
  have HB6 : Hid (Below w.heap.size w w6) := HB5.out.trans (hb.mono HB5.out.size)
  clear hb HB5
  go_wp2_with fail
  refine calls_gen fun w7 hw => ?_
  have hb : Below w6.heap.size w6 w7 := by rw [hw]; exact (Below.refl _ _).alloc (Nat.le_refl _) _
  have HJn : Hid (Blk w7 w6.heap.size #[.int .i64 0, .slice a1_0 1 c1_0, .slice a2_0 0 c2_0, .slice a3_0 n3_0 c3_0, .slice a4_0 n4_0 c4_0, .bool (jBot q1 0)] 36) := by rw [hw]; exact Blk.at_new rfl rfl
  clear hw
  generalize hjb0 : w6.heap.size = jb0 at HJn ⊢
  clear hjb0
  have HB7 : Hid (Below w.heap.size w w7) := HB6.out.trans (hb.mono HB6.out.size)
  clear hb HB6
  have HJ0_7 := HJn
  clear HJn
  refine Calls.mono (pfile_any 1 9 [97] [99] w7 (by decide) (by decide) u64_1 i64_9) ?_
  rintro _ w8 ⟨vk, vv, rfl, hk, hv, hb⟩
  obtain ⟨ka0, kc0, rfl⟩ := hk.isSlice
  obtain ⟨va0, vc0, rfl⟩ := hv.isSlice
  have hk0 := hk.any
  have hv0 := hv.any
  clear hk hv
  have HB8 : Hid (Below w.heap.size w w8) := HB7.out.trans (hb.mono HB7.out.size)
  have HJ0_8 := Lib.hid (HJ0_7.out.below hb HJ0_7.out.lt)
  clear hb HB7 HJ0_7
  unfold filCells lf
  go_wp2_with fail
  refine Calls.mono (pfile_any 2 9 [98] [100] w8 (by decide) (by decide) u64_2 i64_9) ?_
  rintro _ w9 ⟨vk, vv, rfl, hk, hv, hb⟩
  obtain ⟨ka1, kc1, rfl⟩ := hk.isSlice
  obtain ⟨va1, vc1, rfl⟩ := hv.isSlice
  have hk0 := hk0.below hb
  have hv0 := hv0.below hb
  have hk1 := hk.any
  have hv1 := hv.any
  clear hk hv
  have HB9 : Hid (Below w.heap.size w w9) := HB8.out.trans (hb.mono HB8.out.size)
  have HJ0_9 := Lib.hid (HJ0_8.out.below hb HJ0_8.out.lt)
  clear hb HB8 HJ0_8
  unfold filCells lf
  go_wp2_with fail
  refine Calls.mono (pfile_any 3 9 [100] [101] w9 (by decide) (by decide) u64_3 i64_9) ?_
  rintro _ w10 ⟨vk, vv, rfl, hk, hv, hb⟩
  obtain ⟨ka2, kc2, rfl⟩ := hk.isSlice
  obtain ⟨va2, vc2, rfl⟩ := hv.isSlice
  have hk0 := hk0.below hb
  have hv0 := hv0.below hb
  have hk1 := hk1.below hb
  have hv1 := hv1.below hb
  have hk2 := hk.any
  have hv2 := hv.any
  clear hk hv
  have HB10 : Hid (Below w.heap.size w w10) := HB9.out.trans (hb.mono HB9.out.size)
  have HJ0_10 := Lib.hid (HJ0_9.out.below hb HJ0_9.out.lt)
  clear hb HB9 HJ0_9
  unfold filCells lf
  go_wp2_with fail
  refine calls_gen fun w11 hw => ?_
  have hb : Below w10.heap.size w10 w11 := by rw [hw]; exact (Below.refl _ _).alloc (Nat.le_refl _) _
  have HR : Hid (Rw filK Any w11 (.slice (some ⟨w10.heap.size, 0, none⟩) 3 3) [p1, p3, p4]) := files3 (T := 42) (b := w10.heap.size) (show Blk w11 _ (filCells p1 (.slice ka0 1 kc0) (.slice va0 1 vc0) ++ filCells p3 (.slice ka1 1 kc1) (.slice va1 1 vc1) ++ filCells p4 (.slice ka2 1 kc2) (.slice va2 1 vc2)).toArray _ from by rw [hw]; exact Blk.at_new rfl rfl) (hk0.below hb) (hv0.below hb) (wf_lf u64_1 i64_9) (hk1.below hb) (hv1.below hb) (wf_lf u64_2 i64_9) (hk2.below hb) (hv2.below hb) (wf_lf u64_3 i64_9)
  clear hw hk0 hv0 hk1 hv1 hk2 hv2
  generalize hfb : w10.heap.size = fb at HR ⊢
  clear hfb
  have HB11 : Hid (Below w.heap.size w w11) := HB10.out.trans (hb.mono HB10.out.size)
  have HJ0_11 := Lib.hid (HJ0_10.out.below hb HJ0_10.out.lt)
  clear hb HB10 HJ0_10
  refine Calls.mono (pversion_any [p1, p3, p4] [] _ _ w11 HR.out (Rw.nil _ _ _)) ?_
  rintro _ w12 ⟨lb, rfl, hl, hb⟩
  have HL := Lib.hid hl
  clear hl HR
  have HB12 : Hid (Below w.heap.size w w12) := HB11.out.trans (hb.mono HB11.out.size)
  have HJ0_12 := Lib.hid (HJ0_11.out.below hb HJ0_11.out.lt)
  clear hb HB11 HJ0_11
  unfold verCells lv
  go_wp2_with fail
  refine Calls.mono (psetup_any w12) ?_
  rintro _ w13 ⟨rfl, hb⟩
  have HLn := Lib.hid (HL.out.below hb)
  clear HL
  have HB13 : Hid (Below w.heap.size w w13) := HB12.out.trans (hb.mono HB12.out.size)
  have HJ0_13 := Lib.hid (HJ0_12.out.below hb HJ0_12.out.lt)
  clear hb HB12 HJ0_12
  unfold stpCells stp0
  go_wp2_with fail
  refine Calls.mono (next_ok (v := q2) (s := stp0) (i := 0) (nu := 3) (nl := 0) (b := jBot q2 0) ((nx_of chk_q2 stp0_ok worst_q2).1) ((nx_of chk_q2 stp0_ok worst_q2).2) up_q2 (by rw [lo_nil rfl]; rfl) rfl (.slice (some ⟨lb, 0, none⟩) 5 5) w13 HLn.out ⟨u64_9, u64_0, u64_0⟩ (by decide)) ?_
  rintro _ w14 ⟨a1_1, c1_1, a2_1, c2_1, a3_1, n3_1, c3_1, a4_1, n4_1, c4_1, rfl, hb⟩
  clear HLn
  have HB14 : Hid (Below w.heap.size w w14) := HB13.out.trans (hb.mono HB13.out.size)
  have HJ0_14 := Lib.hid (HJ0_13.out.below hb HJ0_13.out.lt)
  clear hb HB13 HJ0_13
  go_wp2_with fail
  refine calls_gen fun w15 hw => ?_
  have hb : Below w14.heap.size w14 w15 := by rw [hw]; exact (Below.refl _ _).alloc (Nat.le_refl _) _
  have HJn : Hid (Blk w15 w14.heap.size #[.int .i64 0, .slice a1_1 3 c1_1, .slice a2_1 0 c2_1, .slice a3_1 n3_1 c3_1, .slice a4_1 n4_1 c4_1, .bool (jBot q2 0)] 36) := by rw [hw]; exact Blk.at_new rfl rfl
  clear hw
  generalize hjb1 : w14.heap.size = jb1 at HJn ⊢
  clear hjb1
  have HB15 : Hid (Below w.heap.size w w15) := HB14.out.trans (hb.mono HB14.out.size)
  have HJ0_15 := Lib.hid (HJ0_14.out.below hb HJ0_14.out.lt)
  clear hb HB14 HJ0_14
  have HJ1_15 := HJn
  clear HJn
  refine Calls.mono (pfile_any 1 250 [97] [98] w15 (by decide) (by decide) u64_1 i64_250) ?_
  rintro _ w16 ⟨vk, vv, rfl, hk, hv, hb⟩
  obtain ⟨ka0, kc0, rfl⟩ := hk.isSlice
  obtain ⟨va0, vc0, rfl⟩ := hv.isSlice
  have hk0 := hk.any
  have hv0 := hv.any
  clear hk hv
  have HB16 : Hid (Below w.heap.size w w16) := HB15.out.trans (hb.mono HB15.out.size)
  have HJ0_16 := Lib.hid (HJ0_15.out.below hb HJ0_15.out.lt)
  have HJ1_16 := Lib.hid (HJ1_15.out.below hb HJ1_15.out.lt)
  clear hb HB15 HJ0_15 HJ1_15
  unfold filCells lf
  go_wp2_with fail
  refine calls_gen fun w17 hw => ?_
  have hb : Below w16.heap.size w16 w17 := by rw [hw]; exact (Below.refl _ _).alloc (Nat.le_refl _) _
  have HR : Hid (Rw filK Any w17 (.slice (some ⟨w16.heap.size, 0, none⟩) 1 1) [p5]) := files1 (T := 42) (b := w16.heap.size) (show Blk w17 _ (filCells p5 (.slice ka0 1 kc0) (.slice va0 1 vc0)).toArray _ from by rw [hw]; exact Blk.at_new rfl rfl) (hk0.below hb) (hv0.below hb) (wf_lf u64_1 i64_250)
  clear hw hk0 hv0
  generalize hfb : w16.heap.size = fb at HR ⊢
  clear hfb
  have HB17 : Hid (Below w.heap.size w w17) := HB16.out.trans (hb.mono HB16.out.size)
  have HJ0_17 := Lib.hid (HJ0_16.out.below hb HJ0_16.out.lt)
  have HJ1_17 := Lib.hid (HJ1_16.out.below hb HJ1_16.out.lt)
  clear hb HB16 HJ0_16 HJ1_16
  refine Calls.mono (pversion_any [] [p5] _ _ w17 (Rw.nil _ _ _) HR.out) ?_
  rintro _ w18 ⟨lb, rfl, hl, hb⟩
  have HL := Lib.hid hl
  clear hl HR
  have HB18 : Hid (Below w.heap.size w w18) := HB17.out.trans (hb.mono HB17.out.size)
  have HJ0_18 := Lib.hid (HJ0_17.out.below hb HJ0_17.out.lt)
  have HJ1_18 := Lib.hid (HJ1_17.out.below hb HJ1_17.out.lt)
  clear hb HB17 HJ0_17 HJ1_17
  unfold verCells lv
  go_wp2_with fail
  refine Calls.mono (psetup_any w18) ?_
  rintro _ w19 ⟨rfl, hb⟩
  have HLn := Lib.hid (HL.out.below hb)
  clear HL
  have HB19 : Hid (Below w.heap.size w w19) := HB18.out.trans (hb.mono HB18.out.size)
  have HJ0_19 := Lib.hid (HJ0_18.out.below hb HJ0_18.out.lt)
  have HJ1_19 := Lib.hid (HJ1_18.out.below hb HJ1_18.out.lt)
  clear hb HB18 HJ0_18 HJ1_18
  unfold stpCells stp0
  go_wp2_with fail
  refine Calls.mono (next_ok (v := q3) (s := stp0) (i := 1) (nu := 1) (nl := 0) (b := true) ((nx_of chk_q3 stp0_ok worst_q3).1) ((nx_of chk_q3 stp0_ok worst_q3).2) rfl (by rw [lo_nil rfl]; rfl) bot_q3 (.slice (some ⟨lb, 0, none⟩) 5 5) w19 HLn.out ⟨u64_9, u64_0, u64_0⟩ (by decide)) ?_
  rintro _ w20 ⟨a1_2, c1_2, a2_2, c2_2, a3_2, n3_2, c3_2, a4_2, n4_2, c4_2, rfl, hb⟩
  clear HLn
  have HB20 : Hid (Below w.heap.size w w20) := HB19.out.trans (hb.mono HB19.out.size)
  have HJ0_20 := Lib.hid (HJ0_19.out.below hb HJ0_19.out.lt)
  have HJ1_20 := Lib.hid (HJ1_19.out.below hb HJ1_19.out.lt)
  clear hb HB19 HJ0_19 HJ1_19
  go_wp2_with fail
  refine calls_gen fun w21 hw => ?_
  have hb : Below w20.heap.size w20 w21 := by rw [hw]; exact (Below.refl _ _).alloc (Nat.le_refl _) _
  have HJn : Hid (Blk w21 w20.heap.size #[.int .i64 1, .slice a1_2 1 c1_2, .slice a2_2 0 c2_2, .slice a3_2 n3_2 c3_2, .slice a4_2 n4_2 c4_2, .bool true] 36) := by rw [hw]; exact Blk.at_new rfl rfl
  clear hw
  generalize hjb2 : w20.heap.size = jb2 at HJn ⊢
  clear hjb2
  have HB21 : Hid (Below w.heap.size w w21) := HB20.out.trans (hb.mono HB20.out.size)
  have HJ0_21 := Lib.hid (HJ0_20.out.below hb HJ0_20.out.lt)
  have HJ1_21 := Lib.hid (HJ1_20.out.below hb HJ1_20.out.lt)
  clear hb HB20 HJ0_20 HJ1_20
  have HJ2_21 := HJn
  clear HJn
  refine Calls.mono (pfile_any 1 99 [97] [98] w21 (by decide) (by decide) u64_1 i64_99) ?_
  rintro _ w22 ⟨vk, vv, rfl, hk, hv, hb⟩
  obtain ⟨ka0, kc0, rfl⟩ := hk.isSlice
  obtain ⟨va0, vc0, rfl⟩ := hv.isSlice
  have hk0 := hk.any
  have hv0 := hv.any
  clear hk hv
  have HB22 : Hid (Below w.heap.size w w22) := HB21.out.trans (hb.mono HB21.out.size)
  have HJ0_22 := Lib.hid (HJ0_21.out.below hb HJ0_21.out.lt)
  have HJ1_22 := Lib.hid (HJ1_21.out.below hb HJ1_21.out.lt)
  have HJ2_22 := Lib.hid (HJ2_21.out.below hb HJ2_21.out.lt)
  clear hb HB21 HJ0_21 HJ1_21 HJ2_21
  unfold filCells lf
  go_wp2_with fail
  refine calls_gen fun w23 hw => ?_
  have hb : Below w22.heap.size w22 w23 := by rw [hw]; exact (Below.refl _ _).alloc (Nat.le_refl _) _
  have HR : Hid (Rw filK Any w23 (.slice (some ⟨w22.heap.size, 0, none⟩) 1 1) [p6]) := files1 (T := 42) (b := w22.heap.size) (show Blk w23 _ (filCells p6 (.slice ka0 1 kc0) (.slice va0 1 vc0)).toArray _ from by rw [hw]; exact Blk.at_new rfl rfl) (hk0.below hb) (hv0.below hb) (wf_lf u64_1 i64_99)
  clear hw hk0 hv0
  generalize hfb : w22.heap.size = fb at HR ⊢
  clear hfb
  have HB23 : Hid (Below w.heap.size w w23) := HB22.out.trans (hb.mono HB22.out.size)
  have HJ0_23 := Lib.hid (HJ0_22.out.below hb HJ0_22.out.lt)
  have HJ1_23 := Lib.hid (HJ1_22.out.below hb HJ1_22.out.lt)
  have HJ2_23 := Lib.hid (HJ2_22.out.below hb HJ2_22.out.lt)
  clear hb HB22 HJ0_22 HJ1_22 HJ2_22
  refine Calls.mono (pversion_any [] [p6] _ _ w23 (Rw.nil _ _ _) HR.out) ?_
  rintro _ w24 ⟨lb, rfl, hl, hb⟩
  have HL := Lib.hid hl
  clear hl HR
  have HB24 : Hid (Below w.heap.size w w24) := HB23.out.trans (hb.mono HB23.out.size)
  have HJ0_24 := Lib.hid (HJ0_23.out.below hb HJ0_23.out.lt)
  have HJ1_24 := Lib.hid (HJ1_23.out.below hb HJ1_23.out.lt)
  have HJ2_24 := Lib.hid (HJ2_23.out.below hb HJ2_23.out.lt)
  clear hb HB23 HJ0_23 HJ1_23 HJ2_23
  unfold verCells lv
  go_wp2_with fail
  refine Calls.mono (psetup_any w24) ?_
  rintro _ w25 ⟨rfl, hb⟩
  have HLn := Lib.hid (HL.out.below hb)
  clear HL
  have HB25 : Hid (Below w.heap.size w w25) := HB24.out.trans (hb.mono HB24.out.size)
  have HJ0_25 := Lib.hid (HJ0_24.out.below hb HJ0_24.out.lt)
  have HJ1_25 := Lib.hid (HJ1_24.out.below hb HJ1_24.out.lt)
  have HJ2_25 := Lib.hid (HJ2_24.out.below hb HJ2_24.out.lt)
  clear hb HB24 HJ0_24 HJ1_24 HJ2_24
  unfold stpCells stp0
  go_wp2_with fail
  refine Calls.mono (next_no (v := q4) (s := stp0) 6 ((nx_of chk_q4 stp0_ok worst_q4).1) (by decide) (.slice (some ⟨lb, 0, none⟩) 5 5) w25 HLn.out ⟨u64_9, u64_0, u64_0⟩ (by decide)) ?_
  rintro _ w26 ⟨rfl, hb⟩
  clear HLn
  have HB26 : Hid (Below w.heap.size w w26) := HB25.out.trans (hb.mono HB25.out.size)
  have HJ0_26 := Lib.hid (HJ0_25.out.below hb HJ0_25.out.lt)
  have HJ1_26 := Lib.hid (HJ1_25.out.below hb HJ1_25.out.lt)
  have HJ2_26 := Lib.hid (HJ2_25.out.below hb HJ2_25.out.lt)
  clear hb HB25 HJ0_25 HJ1_25 HJ2_25
  unfold job0 jobC
  go_upto_region 5 with fail
  refine wp_gen fun w27 hw => ?_
  have hb : Below w26.heap.size w26 w27 := by rw [hw]; exact (Below.refl _ _).alloc (Nat.le_refl _) _
  clear hw
  have HB27 : Hid (Below w.heap.size w w27) := HB26.out.trans (hb.mono HB26.out.size)
  have HJ0_27 := Lib.hid (HJ0_26.out.below hb HJ0_26.out.lt)
  have HJ1_27 := Lib.hid (HJ1_26.out.below hb HJ1_26.out.lt)
  have HJ2_27 := Lib.hid (HJ2_26.out.below hb HJ2_26.out.lt)
  clear hb HB26 HJ0_26 HJ1_26 HJ2_26
  have x1 : w27.cell? ⟨jb0, 1, none⟩ = some (.slice a1_0 1 c1_0) := HJ0_27.out.cell rfl
  have x2 : w27.cell? ⟨jb0, 2, none⟩ = some (.slice a2_0 0 c2_0) := HJ0_27.out.cell rfl
  have y1 : w27.cell? ⟨jb1, 1, none⟩ = some (.slice a1_1 3 c1_1) := HJ1_27.out.cell rfl
  have z0 : w27.cell? ⟨jb2, 0, none⟩ = some (.int .i64 1) := HJ2_27.out.cell rfl
  have z5 : w27.cell? ⟨jb2, 5, none⟩ = some (.bool true) := HJ2_27.out.cell rfl
  go_wp2_with fail
  go_ret
  exact ⟨rfl, HB27.out⟩
end Go.Proofs.Ytkcohhldmhdcfaa

namespace Go.Proofs.Ytkcohhldmhdcfaa
open Go.RowKit

theorem score_q3 : scoreB q3 stp0 1 = 250 := by
  unfold scoreB
  rw [if_pos ⟨mayW_of chk_q3 stp0_ok, by decide, by decide⟩, show (1 : Int).toNat = 1 from rfl, (score_lv (n0 := 0) (n1 := 250) chk_q3 rfl (by decide) rfl rfl).2.1]
  decide
theorem rest_q3 : restB q3 stp0 = false := by unfold restB; rw [worst_q3]; simp
theorem stp_zero : stpW ⟨0, 0, 0⟩ = 2 := stpW_no fun h => absurd h.t0 (by decide)
theorem pscore_at {v : Ver} {s : Stp} {lev c : Int} (hc : scoreB v s lev = c) (lv : Value) (w : World) (h : Rw (rowK filK) Any w lv v.levels) (hw : v.wf) (hfew : cntTo v.levels v.levels.length ≤ 1000000) :
    Calls Try.prog 19 #[.agg (verCells v lv).toArray, .agg (stpCells s).toArray, .int .i64 lev] w fun e w' => e = .returned (.int .i64 c) ∧ Below w.heap.size w w' := by subst hc; exact pscore_any Any v s lv lev w h hw hfew
theorem prest_at {v : Ver} {s : Stp} {b : Bool} (hc : restB v s = b) (lv : Value) (w : World) (h : Rw (rowK filK) Any w lv v.levels) (hw : v.wf) (hfew : cntTo v.levels v.levels.length ≤ 1000000) :
    Calls Try.prog 14 #[.agg (verCells v lv).toArray, .agg (stpCells s).toArray] w fun e w' => e = .returned (.bool b) ∧ Below w.heap.size w w' := by subst hc; exact rest_any Any v s lv w h hw hfew
theorem bound_at {s : Stp} {lev c : Int} (hc : boundW s lev = c) (w : World) :
    Calls Try.prog 21 #[.agg (stpCells s).toArray, .int .i64 lev] w fun e w' => e = .returned (.int .i64 c) ∧ Below w.heap.size w w' := by subst hc; exact bound_any s lev w
theorem setup_at {s : Stp} {c : Int} (hc : stpW s = c) (w : World) :
    Calls Try.prog 12 #[.agg (stpCells s).toArray] w fun e w' => e = .returned (.int .i64 c) ∧ Below w.heap.size w w' := by subst hc; exact setup_any s w
set_option maxRecDepth 100000 in
set_option maxHeartbeats 16000000 in
theorem pickNames_any (w : World) :
    Calls Try.prog 4 #[] w fun x w' => x = .returned (.bool true) ∧ Below w.heap.size w w' := by
  go_enter Try.func4, Try.ntmps4
  go_wp2_with fail
  refine Calls.mono (pfile_any 1 250 [97] [98] w (by decide) (by decide) u64_1 i64_250) ?_
  rintro _ w1 ⟨vk, vv, rfl, hk, hv, hb⟩
  obtain ⟨ka0, kc0, rfl⟩ := hk.isSlice
  obtain ⟨va0, vc0, rfl⟩ := hv.isSlice
  have hk0 := hk.any
  have hv0 := hv.any
  have HB1 := Lib.hid hb
  clear hk hv hb
  unfold filCells lf
  go_wp2_with fail
  refine calls_gen fun w2 hw => ?_
  have hb : Below w1.heap.size w1 w2 := by rw [hw]; exact (Below.refl _ _).alloc (Nat.le_refl _) _
  have HR : Hid (Rw filK Any w2 (.slice (some ⟨w1.heap.size, 0, none⟩) 1 1) [p5]) := files1 (T := 42) (b := w1.heap.size) (show Blk w2 _ (filCells p5 (.slice ka0 1 kc0) (.slice va0 1 vc0)).toArray _ from by rw [hw]; exact Blk.at_new rfl rfl) (hk0.below hb) (hv0.below hb) (wf_lf u64_1 i64_250)
  clear hw hk0 hv0
  generalize hfb : w1.heap.size = fb at HR ⊢
  clear hfb
  have HB2 : Hid (Below w.heap.size w w2) := HB1.out.trans (hb.mono HB1.out.size)
  clear hb HB1
  refine Calls.mono (pversion_any [] [p5] _ _ w2 (Rw.nil _ _ _) HR.out) ?_
  rintro _ w3 ⟨lb, rfl, hl, hb⟩
  have HL := Lib.hid hl
  have HB3 : Hid (Below w.heap.size w w3) := HB2.out.trans (hb.mono HB2.out.size)
  clear hl HR hb HB2
  unfold verCells lv
  go_upto_region 2 with fail
  refine wp_gen fun w4 hw => ?_
  have hb : Below w3.heap.size w3 w4 := by rw [hw]; exact (Below.refl _ _).alloc (Nat.le_refl _) _
  have HX : Hid (Blk w4 w3.heap.size #[.slice (some ⟨lb, 0, none⟩) 5 5, .int .u64 9, .int .u64 0, .int .u64 0] 25) := by rw [hw]; exact Blk.at_new rfl rfl
  clear hw
  have HL4 : Hid (Rw (rowK filK) Any w4 (.slice (some ⟨lb, 0, none⟩) 5 5) q3.levels) := HL.out.below hb
  have HB4 : Hid (Below w.heap.size w w4) := HB3.out.trans (hb.mono HB3.out.size)
  clear hb HL HB3
  generalize w3.heap.size = vb at *
  have HKP : Hid (∀ W, Below w4.heap.size w4 W → (W.cell? ⟨vb, 0, none⟩ = some (.slice (some ⟨lb, 0, none⟩) 5 5) ∧ W.cell? ⟨vb, 1, none⟩ = some (.int .u64 9) ∧ W.cell? ⟨vb, 2, none⟩ = some (.int .u64 0) ∧ W.cell? ⟨vb, 3, none⟩ = some (.int .u64 0))) := fun W hb => ⟨(HX.out.below hb HX.out.lt).cell rfl, (HX.out.below hb HX.out.lt).cell rfl, (HX.out.below hb HX.out.lt).cell rfl, (HX.out.below hb HX.out.lt).cell rfl⟩
  have D0 : Hid (Below w4.heap.size w4 w4.drew) := below_drew (Below.refl _ _)
  refine wp_region_held_drew (S := fun w' => (w'.cell? ⟨vb, 0, none⟩ = some (.slice (some ⟨lb, 0, none⟩) 5 5) ∧ w'.cell? ⟨vb, 1, none⟩ = some (.int .u64 9) ∧ w'.cell? ⟨vb, 2, none⟩ = some (.int .u64 0) ∧ w'.cell? ⟨vb, 3, none⟩ = some (.int .u64 0))) (by kernel_rfl) (HKP.out _ D0.out) (fun hHeld => ?_)
  have hOld := hHeld
  clear hHeld
  refine wpAnyH_ready (rs := [0]) (by kernel_rfl) (by simp) ?_
  refine AllReadyH.cons (o := ?oR_1_0) ?eR_1_0 (fun K hK => ?_) AllReadyH.nil
  case eR_1_0 => simp only [List.getElem?_toArray, List.getElem?_cons_zero]; rfl
  go_simp
  (go_at_call 9; refine Calls.mono (plives_any _) ?_; rintro _ x0 ⟨rfl, hb0⟩; have D1 : Hid (Below w4.heap.size w4 x0) := D0.out.trans (hb0.mono D0.out.size); clear hb0)
  try go_wp2_with fail
  refine hK.out _ _ (HKP.out _ D1.out) (fun hHeld => ?_)
  clear hK hOld
  try simp only [Act.put, List.setIfInBounds_toArray, List.set_cons_zero, List.set_cons_succ]
  refine wpAnyH_take (i := 1) (oi := ?oR_2_1) (v := ?vR_2_1) ?eR_2_1 (by kernel_rfl) (by kernel_rfl) (by kernel_rfl) ?qR_2_1 (Or.inl ⟨?wR_2_1, ?yR_2_1⟩) (by assumption) ?rR_2_1
  case eR_2_1 => simp only [List.getElem?_toArray, List.getElem?_cons_succ, List.getElem?_cons_zero]; rfl
  case wR_2_1 => rfl
  case qR_2_1 => exact fun _ _ _ h => h
  case yR_2_1 => (intro w hSw; (try dsimp only at hSw); go_simp; try with_reducible rfl)
  try simp only [Act.put, List.setIfInBounds_toArray, List.set_cons_zero, List.set_cons_succ]
  refine wpAnyH_take (i := 2) (oi := ?oR_3_2) (v := ?vR_3_2) ?eR_3_2 (by kernel_rfl) (by kernel_rfl) (by kernel_rfl) ?qR_3_2 (Or.inl ⟨?wR_3_2, ?yR_3_2⟩) (by assumption) ?rR_3_2
  case eR_3_2 => simp only [List.getElem?_toArray, List.getElem?_cons_succ, List.getElem?_cons_zero]; rfl
  case wR_3_2 => rfl
  case qR_3_2 => exact fun _ _ _ h => h
  case yR_3_2 => (intro w hSw; (try dsimp only at hSw); go_simp; try with_reducible rfl)
  try simp only [Act.put, List.setIfInBounds_toArray, List.set_cons_zero, List.set_cons_succ]
  have hOld := hHeld
  clear hHeld
  refine wpAnyH_ready (rs := [3]) (by kernel_rfl) (by simp) ?_
  refine AllReadyH.cons (o := ?oR_4_3) ?eR_4_3 (fun K hK => ?_) AllReadyH.nil
  case eR_4_3 => simp only [List.getElem?_toArray, List.getElem?_cons_succ, List.getElem?_cons_zero]; rfl
  go_simp
  (go_at_call 20; refine Calls.mono (psetup_any _) ?_; rintro _ x1 ⟨rfl, hb1⟩; have D2 : Hid (Below w4.heap.size w4 x1) := D1.out.trans (hb1.mono D1.out.size); clear hb1)
  try go_wp2_with fail
  refine hK.out _ _ (HKP.out _ D2.out) (fun hHeld => ?_)
  clear hK hOld
  try simp only [Act.put, List.setIfInBounds_toArray, List.set_cons_zero, List.set_cons_succ]
  have hOld := hHeld
  clear hHeld
  refine wpAnyH_ready (rs := [4]) (by kernel_rfl) (by simp) ?_
  refine AllReadyH.cons (o := ?oR_5_4) ?eR_5_4 (fun K hK => ?_) AllReadyH.nil
  case eR_5_4 => simp only [List.getElem?_toArray, List.getElem?_cons_succ, List.getElem?_cons_zero]; rfl
  go_simp
  (go_at_call 19; refine Calls.mono (pscore_at score_q3 (.slice (some ⟨lb, 0, none⟩) 5 5) _ (HL4.out.below D2.out) ⟨u64_9, u64_0, u64_0⟩ (by decide)) ?_; rintro _ x2 ⟨rfl, hb2⟩; have D3 : Hid (Below w4.heap.size w4 x2) := D2.out.trans (hb2.mono D2.out.size); clear hb2)
  try go_wp2_with fail
  refine hK.out _ _ (HKP.out _ D3.out) (fun hHeld => ?_)
  clear hK hOld
  try simp only [Act.put, List.setIfInBounds_toArray, List.set_cons_zero, List.set_cons_succ]
  refine wpAnyH_take (i := 5) (oi := ?oR_6_5) (v := ?vR_6_5) ?eR_6_5 (by kernel_rfl) (by kernel_rfl) (by kernel_rfl) ?qR_6_5 (Or.inl ⟨?wR_6_5, ?yR_6_5⟩) (by assumption) ?rR_6_5
  case eR_6_5 => simp only [List.getElem?_toArray, List.getElem?_cons_succ, List.getElem?_cons_zero]; rfl
  case wR_6_5 => rfl
  case qR_6_5 => exact fun _ _ _ h => h
  case yR_6_5 => (intro w hSw; (try dsimp only at hSw); go_simp; try with_reducible rfl)
  try simp only [Act.put, List.setIfInBounds_toArray, List.set_cons_zero, List.set_cons_succ]
  refine wpAnyH_take (i := 6) (oi := ?oR_7_6) (v := ?vR_7_6) ?eR_7_6 (by kernel_rfl) (by kernel_rfl) (by kernel_rfl) ?qR_7_6 (Or.inl ⟨?wR_7_6, ?yR_7_6⟩) (by assumption) ?rR_7_6
  case eR_7_6 => simp only [List.getElem?_toArray, List.getElem?_cons_succ, List.getElem?_cons_zero]; rfl
  case wR_7_6 => rfl
  case qR_7_6 => exact fun _ _ _ h => h
  case yR_7_6 => (intro w hSw; (try dsimp only at hSw); go_simp; try with_reducible rfl)
  try simp only [Act.put, List.setIfInBounds_toArray, List.set_cons_zero, List.set_cons_succ]
  refine wpAnyH_take (i := 7) (oi := ?oR_8_7) (v := ?vR_8_7) ?eR_8_7 (by kernel_rfl) (by kernel_rfl) (by kernel_rfl) ?qR_8_7 (Or.inl ⟨?wR_8_7, ?yR_8_7⟩) (by assumption) ?rR_8_7
  case eR_8_7 => simp only [List.getElem?_toArray, List.getElem?_cons_succ, List.getElem?_cons_zero]; rfl
  case wR_8_7 => rfl
  case qR_8_7 => exact fun _ _ _ h => h
  case yR_8_7 => (intro w hSw; (try dsimp only at hSw); go_simp; try with_reducible rfl)
  try simp only [Act.put, List.setIfInBounds_toArray, List.set_cons_zero, List.set_cons_succ]
  have hOld := hHeld
  clear hHeld
  refine wpAnyH_ready (rs := [8]) (by kernel_rfl) (by simp) ?_
  refine AllReadyH.cons (o := ?oR_9_8) ?eR_9_8 (fun K hK => ?_) AllReadyH.nil
  case eR_9_8 => simp only [List.getElem?_toArray, List.getElem?_cons_succ, List.getElem?_cons_zero]; rfl
  go_simp
  (go_at_call 20; refine Calls.mono (psetup_any _) ?_; rintro _ x3 ⟨rfl, hb3⟩; have D4 : Hid (Below w4.heap.size w4 x3) := D3.out.trans (hb3.mono D3.out.size); clear hb3)
  try go_wp2_with fail
  refine hK.out _ _ (HKP.out _ D4.out) (fun hHeld => ?_)
  clear hK hOld
  try simp only [Act.put, List.setIfInBounds_toArray, List.set_cons_zero, List.set_cons_succ]
  have hOld := hHeld
  clear hHeld
  refine wpAnyH_ready (rs := [9]) (by kernel_rfl) (by simp) ?_
  refine AllReadyH.cons (o := ?oR_10_9) ?eR_10_9 (fun K hK => ?_) AllReadyH.nil
  case eR_10_9 => simp only [List.getElem?_toArray, List.getElem?_cons_succ, List.getElem?_cons_zero]; rfl
  go_simp
  (go_at_call 21; refine Calls.mono (bound_at bd3 _) ?_; rintro _ x4 ⟨rfl, hb4⟩; have D5 : Hid (Below w4.heap.size w4 x4) := D4.out.trans (hb4.mono D4.out.size); clear hb4)
  try go_wp2_with fail
  refine hK.out _ _ (HKP.out _ D5.out) (fun hHeld => ?_)
  clear hK hOld
  try simp only [Act.put, List.setIfInBounds_toArray, List.set_cons_zero, List.set_cons_succ]
  refine wpAnyH_take (i := 10) (oi := ?oR_11_10) (v := ?vR_11_10) ?eR_11_10 (by kernel_rfl) (by kernel_rfl) (by kernel_rfl) ?qR_11_10 (Or.inl ⟨?wR_11_10, ?yR_11_10⟩) (by assumption) ?rR_11_10
  case eR_11_10 => simp only [List.getElem?_toArray, List.getElem?_cons_succ, List.getElem?_cons_zero]; rfl
  case wR_11_10 => rfl
  case qR_11_10 => exact fun _ _ _ h => h
  case yR_11_10 => (intro w hSw; (try dsimp only at hSw); go_simp; try with_reducible rfl)
  try simp only [Act.put, List.setIfInBounds_toArray, List.set_cons_zero, List.set_cons_succ]
  refine wpAnyH_take (i := 11) (oi := ?oR_12_11) (v := ?vR_12_11) ?eR_12_11 (by kernel_rfl) (by kernel_rfl) (by kernel_rfl) ?qR_12_11 (Or.inl ⟨?wR_12_11, ?yR_12_11⟩) (by assumption) ?rR_12_11
  case eR_12_11 => simp only [List.getElem?_toArray, List.getElem?_cons_succ, List.getElem?_cons_zero]; rfl
  case wR_12_11 => rfl
  case qR_12_11 => exact fun _ _ _ h => h
  case yR_12_11 => (intro w hSw; (try dsimp only at hSw); go_simp; try with_reducible rfl)
  try simp only [Act.put, List.setIfInBounds_toArray, List.set_cons_zero, List.set_cons_succ]
  refine wpAnyH_take (i := 12) (oi := ?oR_13_12) (v := ?vR_13_12) ?eR_13_12 (by kernel_rfl) (by kernel_rfl) (by kernel_rfl) ?qR_13_12 (Or.inl ⟨?wR_13_12, ?yR_13_12⟩) (by assumption) ?rR_13_12
  case eR_13_12 => simp only [List.getElem?_toArray, List.getElem?_cons_succ, List.getElem?_cons_zero]; rfl
  case wR_13_12 => rfl
  case qR_13_12 => exact fun _ _ _ h => h
  case yR_13_12 => (intro w hSw; (try dsimp only at hSw); go_simp; try with_reducible rfl)
  try simp only [Act.put, List.setIfInBounds_toArray, List.set_cons_zero, List.set_cons_succ]
  have hOld := hHeld
  clear hHeld
  refine wpAnyH_ready (rs := [13]) (by kernel_rfl) (by simp) ?_
  refine AllReadyH.cons (o := ?oR_14_13) ?eR_14_13 (fun K hK => ?_) AllReadyH.nil
  case eR_14_13 => simp only [List.getElem?_toArray, List.getElem?_cons_succ, List.getElem?_cons_zero]; rfl
  go_simp
  (go_at_call 20; refine Calls.mono (psetup_any _) ?_; rintro _ x5 ⟨rfl, hb5⟩; have D6 : Hid (Below w4.heap.size w4 x5) := D5.out.trans (hb5.mono D5.out.size); clear hb5)
  try go_wp2_with fail
  refine hK.out _ _ (HKP.out _ D6.out) (fun hHeld => ?_)
  clear hK hOld
  try simp only [Act.put, List.setIfInBounds_toArray, List.set_cons_zero, List.set_cons_succ]
  have hOld := hHeld
  clear hHeld
  refine wpAnyH_ready (rs := [14]) (by kernel_rfl) (by simp) ?_
  refine AllReadyH.cons (o := ?oR_15_14) ?eR_15_14 (fun K hK => ?_) AllReadyH.nil
  case eR_15_14 => simp only [List.getElem?_toArray, List.getElem?_cons_succ, List.getElem?_cons_zero]; rfl
  go_simp
  (go_at_call 21; refine Calls.mono (bound_at bd4 _) ?_; rintro _ x6 ⟨rfl, hb6⟩; have D7 : Hid (Below w4.heap.size w4 x6) := D6.out.trans (hb6.mono D6.out.size); clear hb6)
  try go_wp2_with fail
  refine hK.out _ _ (HKP.out _ D7.out) (fun hHeld => ?_)
  clear hK hOld
  try simp only [Act.put, List.setIfInBounds_toArray, List.set_cons_zero, List.set_cons_succ]
  refine wpAnyH_take (i := 15) (oi := ?oR_16_15) (v := ?vR_16_15) ?eR_16_15 (by kernel_rfl) (by kernel_rfl) (by kernel_rfl) ?qR_16_15 (Or.inl ⟨?wR_16_15, ?yR_16_15⟩) (by assumption) ?rR_16_15
  case eR_16_15 => simp only [List.getElem?_toArray, List.getElem?_cons_succ, List.getElem?_cons_zero]; rfl
  case wR_16_15 => rfl
  case qR_16_15 => exact fun _ _ _ h => h
  case yR_16_15 => (intro w hSw; (try dsimp only at hSw); go_simp; try with_reducible rfl)
  try simp only [Act.put, List.setIfInBounds_toArray, List.set_cons_zero, List.set_cons_succ]
  refine wpAnyH_take (i := 16) (oi := ?oR_17_16) (v := ?vR_17_16) ?eR_17_16 (by kernel_rfl) (by kernel_rfl) (by kernel_rfl) ?qR_17_16 (Or.inl ⟨?wR_17_16, ?yR_17_16⟩) (by assumption) ?rR_17_16
  case eR_17_16 => simp only [List.getElem?_toArray, List.getElem?_cons_succ, List.getElem?_cons_zero]; rfl
  case wR_17_16 => rfl
  case qR_17_16 => exact fun _ _ _ h => h
  case yR_17_16 => (intro w hSw; (try dsimp only at hSw); go_simp; try with_reducible rfl)
  try simp only [Act.put, List.setIfInBounds_toArray, List.set_cons_zero, List.set_cons_succ]
  refine wpAnyH_take (i := 17) (oi := ?oR_18_17) (v := ?vR_18_17) ?eR_18_17 (by kernel_rfl) (by kernel_rfl) (by kernel_rfl) ?qR_18_17 (Or.inl ⟨?wR_18_17, ?yR_18_17⟩) (by assumption) ?rR_18_17
  case eR_18_17 => simp only [List.getElem?_toArray, List.getElem?_cons_succ, List.getElem?_cons_zero]; rfl
  case wR_18_17 => rfl
  case qR_18_17 => exact fun _ _ _ h => h
  case yR_18_17 => (intro w hSw; (try dsimp only at hSw); go_simp; try with_reducible rfl)
  try simp only [Act.put, List.setIfInBounds_toArray, List.set_cons_zero, List.set_cons_succ]
  refine wpAnyH_take (i := 18) (oi := ?oR_19_18) (v := ?vR_19_18) ?eR_19_18 (by kernel_rfl) (by kernel_rfl) (by kernel_rfl) ?qR_19_18 (Or.inl ⟨?wR_19_18, ?yR_19_18⟩) (by assumption) ?rR_19_18
  case eR_19_18 => simp only [List.getElem?_toArray, List.getElem?_cons_succ, List.getElem?_cons_zero]; rfl
  case wR_19_18 => rfl
  case qR_19_18 => exact fun _ _ _ h => h
  case yR_19_18 => (intro w hSw; (try dsimp only at hSw); go_simp; try with_reducible rfl)
  try simp only [Act.put, List.setIfInBounds_toArray, List.set_cons_zero, List.set_cons_succ]
  have hOld := hHeld
  clear hHeld
  refine wpAnyH_ready (rs := [19]) (by kernel_rfl) (by simp) ?_
  refine AllReadyH.cons (o := ?oR_20_19) ?eR_20_19 (fun K hK => ?_) AllReadyH.nil
  case eR_20_19 => simp only [List.getElem?_toArray, List.getElem?_cons_succ, List.getElem?_cons_zero]; rfl
  go_simp
  (go_at_call 20; refine Calls.mono (psetup_any _) ?_; rintro _ x7 ⟨rfl, hb7⟩; have D8 : Hid (Below w4.heap.size w4 x7) := D7.out.trans (hb7.mono D7.out.size); clear hb7)
  try go_wp2_with fail
  refine hK.out _ _ (HKP.out _ D8.out) (fun hHeld => ?_)
  clear hK hOld
  try simp only [Act.put, List.setIfInBounds_toArray, List.set_cons_zero, List.set_cons_succ]
  have hOld := hHeld
  clear hHeld
  refine wpAnyH_ready (rs := [20]) (by kernel_rfl) (by simp) ?_
  refine AllReadyH.cons (o := ?oR_21_20) ?eR_21_20 (fun K hK => ?_) AllReadyH.nil
  case eR_21_20 => simp only [List.getElem?_toArray, List.getElem?_cons_succ, List.getElem?_cons_zero]; rfl
  go_simp
  (go_at_call 14; refine Calls.mono (prest_at rest_q3 (.slice (some ⟨lb, 0, none⟩) 5 5) _ (HL4.out.below D8.out) ⟨u64_9, u64_0, u64_0⟩ (by decide)) ?_; rintro _ x8 ⟨rfl, hb8⟩; have D9 : Hid (Below w4.heap.size w4 x8) := D8.out.trans (hb8.mono D8.out.size); clear hb8)
  try go_wp2_with fail
  refine hK.out _ _ (HKP.out _ D9.out) (fun hHeld => ?_)
  clear hK hOld
  try simp only [Act.put, List.setIfInBounds_toArray, List.set_cons_zero, List.set_cons_succ]
  refine wpAnyH_take (i := 21) (oi := ?oR_22_21) (v := ?vR_22_21) ?eR_22_21 (by kernel_rfl) (by kernel_rfl) (by kernel_rfl) ?qR_22_21 (Or.inl ⟨?wR_22_21, ?yR_22_21⟩) (by assumption) ?rR_22_21
  case eR_22_21 => simp only [List.getElem?_toArray, List.getElem?_cons_succ, List.getElem?_cons_zero]; rfl
  case wR_22_21 => rfl
  case qR_22_21 => exact fun _ _ _ h => h
  case yR_22_21 => (intro w hSw; (try dsimp only at hSw); go_simp; try with_reducible rfl)
  try simp only [Act.put, List.setIfInBounds_toArray, List.set_cons_zero, List.set_cons_succ]
  refine wpAnyH_take (i := 22) (oi := ?oR_23_22) (v := ?vR_23_22) ?eR_23_22 (by kernel_rfl) (by kernel_rfl) (by kernel_rfl) ?qR_23_22 (Or.inl ⟨?wR_23_22, ?yR_23_22⟩) (by assumption) ?rR_23_22
  case eR_23_22 => simp only [List.getElem?_toArray, List.getElem?_cons_succ, List.getElem?_cons_zero]; rfl
  case wR_23_22 => rfl
  case qR_23_22 => exact fun _ _ _ h => h
  case yR_23_22 => (intro w hSw; (try dsimp only at hSw); go_simp; try with_reducible rfl)
  try simp only [Act.put, List.setIfInBounds_toArray, List.set_cons_zero, List.set_cons_succ]
  refine wpAnyH_take (i := 23) (oi := ?oR_24_23) (v := ?vR_24_23) ?eR_24_23 (by kernel_rfl) (by kernel_rfl) (by kernel_rfl) ?qR_24_23 (Or.inl ⟨?wR_24_23, ?yR_24_23⟩) (by assumption) ?rR_24_23
  case eR_24_23 => simp only [List.getElem?_toArray, List.getElem?_cons_succ, List.getElem?_cons_zero]; rfl
  case wR_24_23 => rfl
  case qR_24_23 => exact fun _ _ _ h => h
  case yR_24_23 => (intro w hSw; (try dsimp only at hSw); go_simp; try with_reducible rfl)
  try simp only [Act.put, List.setIfInBounds_toArray, List.set_cons_zero, List.set_cons_succ]
  refine wpAnyH_take (i := 24) (oi := ?oR_25_24) (v := ?vR_25_24) ?eR_25_24 (by kernel_rfl) (by kernel_rfl) (by kernel_rfl) ?qR_25_24 (Or.inl ⟨?wR_25_24, ?yR_25_24⟩) (by assumption) ?rR_25_24
  case eR_25_24 => simp only [List.getElem?_toArray, List.getElem?_cons_succ, List.getElem?_cons_zero]; rfl
  case wR_25_24 => rfl
  case qR_25_24 => exact fun _ _ _ h => h
  case yR_25_24 => (intro w hSw; (try dsimp only at hSw); go_simp; try with_reducible rfl)
  try simp only [Act.put, List.setIfInBounds_toArray, List.set_cons_zero, List.set_cons_succ]
  have hOld := hHeld
  clear hHeld
  refine wpAnyH_ready (rs := [25]) (by kernel_rfl) (by simp) ?_
  refine AllReadyH.cons (o := ?oR_26_25) ?eR_26_25 (fun K hK => ?_) AllReadyH.nil
  case eR_26_25 => simp only [List.getElem?_toArray, List.getElem?_cons_succ, List.getElem?_cons_zero]; rfl
  go_simp
  (go_at_call 12; refine Calls.mono (setup_at stp_zero _) ?_; rintro _ x9 ⟨rfl, hb9⟩; have D10 : Hid (Below w4.heap.size w4 x9) := D9.out.trans (hb9.mono D9.out.size); clear hb9)
  try go_wp2_with fail
  refine hK.out _ _ (HKP.out _ D10.out) (fun hHeld => ?_)
  clear hK hOld
  try simp only [Act.put, List.setIfInBounds_toArray, List.set_cons_zero, List.set_cons_succ]
  refine wpAnyH_take (i := 26) (oi := ?oR_27_26) (v := ?vR_27_26) ?eR_27_26 (by kernel_rfl) (by kernel_rfl) (by kernel_rfl) ?qR_27_26 (Or.inl ⟨?wR_27_26, ?yR_27_26⟩) (by assumption) ?rR_27_26
  case eR_27_26 => simp only [List.getElem?_toArray, List.getElem?_cons_succ, List.getElem?_cons_zero]; rfl
  case wR_27_26 => rfl
  case qR_27_26 => exact fun _ _ _ h => h
  case yR_27_26 => (intro w hSw; (try dsimp only at hSw); go_simp; try with_reducible rfl)
  try simp only [Act.put, List.setIfInBounds_toArray, List.set_cons_zero, List.set_cons_succ]
  refine wpAnyH_take (i := 27) (oi := ?oR_28_27) (v := ?vR_28_27) ?eR_28_27 (by kernel_rfl) (by kernel_rfl) (by kernel_rfl) ?qR_28_27 (Or.inl ⟨?wR_28_27, ?yR_28_27⟩) (by assumption) ?rR_28_27
  case eR_28_27 => simp only [List.getElem?_toArray, List.getElem?_cons_succ, List.getElem?_cons_zero]; rfl
  case wR_28_27 => rfl
  case qR_28_27 => exact fun _ _ _ h => h
  case yR_28_27 => (intro w hSw; (try dsimp only at hSw); go_simp; try with_reducible rfl)
  try simp only [Act.put, List.setIfInBounds_toArray, List.set_cons_zero, List.set_cons_succ]
  refine wpAnyH_take (i := 28) (oi := ?oR_29_28) (v := ?vR_29_28) ?eR_29_28 (by kernel_rfl) (by kernel_rfl) (by kernel_rfl) ?qR_29_28 (Or.inl ⟨?wR_29_28, ?yR_29_28⟩) (by assumption) ?rR_29_28
  case eR_29_28 => simp only [List.getElem?_toArray, List.getElem?_cons_succ, List.getElem?_cons_zero]; rfl
  case wR_29_28 => rfl
  case qR_29_28 => exact fun _ _ _ h => h
  case yR_29_28 => (intro w hSw; (try dsimp only at hSw); go_simp; try with_reducible rfl)
  try simp only [Act.put, List.setIfInBounds_toArray, List.set_cons_zero]
  refine wpAnyH_done (by kernel_rfl) ?_ _
  go_wp2_with fail
  go_ret
  exact ⟨rfl, HB4.out.trans (D10.out.mono HB4.out.size)⟩
end Go.Proofs.Ytkcohhldmhdcfaa
