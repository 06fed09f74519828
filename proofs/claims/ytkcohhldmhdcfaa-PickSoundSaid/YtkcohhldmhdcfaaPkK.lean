/- Chapter 14: the chapter's examples, plain. -/
import Derived.Test.YtkcohhldmhdcfaaPkJ
namespace Go.Proofs.Ytkcohhldmhdcfaa
open Go.RowKit

def p1 : Fil := lf 1 9 [97] [99]
def p2 : Fil := lf 2 9 [120] [122]
def p3 : Fil := lf 2 9 [98] [100]
def p4 : Fil := lf 3 9 [100] [101]
def p5 : Fil := lf 1 250 [97] [98]
def p6 : Fil := lf 1 99 [97] [98]
def q1 : Ver := lv [p1, p2] []
def q2 : Ver := lv [p1, p3, p4] []
def q3 : Ver := lv [] [p5]
def q4 : Ver := lv [] [p6]
theorem wf_lf {n size : Int} {ks vs : List UInt8} (hn : u64In n) (hs : i64In size) : (lf n size ks vs).wf := ⟨hn, hs, ⟨by show (-9223372036854775808 : Int) ≤ 1; decide, by show (1 : Int) ≤ 9223372036854775807; decide⟩, u64_1⟩
theorem i64_9 : i64In 9 := ⟨by decide, by decide⟩
theorem i64_99 : i64In 99 := ⟨by decide, by decide⟩
theorem i64_250 : i64In 250 := ⟨by decide, by decide⟩
theorem u64_9 : u64In 9 := ⟨by decide, by decide⟩
theorem chk_q1 : chkW q1 = 0 := chkW_few ⟨rfl, by decide, by decide, by decide, by decide⟩ (by decide +kernel) (fun i hi f hf => by
  match i, hi with
  | 1, _ | 2, _ | 3, _ | 4, _ => cases hf
  | 0, _ =>
    have : f = p1 ∨ f = p2 := by simpa [q1, lv, lat] using hf
    rcases this with rfl | rfl
    · exact wf_lf u64_1 i64_9
    · exact wf_lf u64_2 i64_9) ⟨u64_9, u64_0, u64_0⟩ (by decide)
theorem chk_q2 : chkW q2 = 0 := chkW_few ⟨rfl, by decide, by decide, by decide, by decide⟩ (by decide +kernel) (fun i hi f hf => by
  match i, hi with
  | 1, _ | 2, _ | 3, _ | 4, _ => cases hf
  | 0, _ =>
    have : f = p1 ∨ f = p3 ∨ f = p4 := by simpa [q2, lv, lat] using hf
    rcases this with rfl | rfl | rfl
    · exact wf_lf u64_1 i64_9
    · exact wf_lf u64_2 i64_9
    · exact wf_lf u64_3 i64_9) ⟨u64_9, u64_0, u64_0⟩ (by decide)
theorem chk_q3 : chkW q3 = 0 := chkW_few ⟨rfl, by decide, by decide, by decide, by decide⟩ (by decide +kernel) (fun i hi f hf => by
  match i, hi with
  | 0, _ | 2, _ | 3, _ | 4, _ => cases hf
  | 1, _ =>
    have : f = p5 := by simpa [q3, lv, lat] using hf
    rw [this]
    exact wf_lf u64_1 i64_250) ⟨u64_9, u64_0, u64_0⟩ (by decide)
theorem chk_q4 : chkW q4 = 0 := chkW_few ⟨rfl, by decide, by decide, by decide, by decide⟩ (by decide +kernel) (fun i hi f hf => by
  match i, hi with
  | 0, _ | 2, _ | 3, _ | 4, _ => cases hf
  | 1, _ =>
    have : f = p6 := by simpa [q4, lv, lat] using hf
    rw [this]
    exact wf_lf u64_1 i64_99) ⟨u64_9, u64_0, u64_0⟩ (by decide)
theorem stp0_ok : stpW stp0 = 0 := stpW_yes ⟨by decide, by decide, by decide, by decide, by decide, by decide⟩
theorem bd0 : boundW stp0 0 = 2 := by unfold boundW; rw [if_neg (by simp [stp0_ok]), if_pos rfl]; rfl
theorem bd1 : boundW stp0 1 = 100 := by unfold boundW; rw [if_neg (by simp [stp0_ok]), if_neg (by decide), if_pos rfl]; rfl
theorem bd2 : boundW stp0 2 = 1000 := by unfold boundW; rw [if_neg (by simp [stp0_ok]), if_neg (by decide), if_neg (by decide), if_pos rfl]; rfl
theorem bd3 : boundW stp0 3 = 10000 := by unfold boundW; rw [if_neg (by simp [stp0_ok]), if_neg (by decide), if_neg (by decide), if_neg (by decide), if_pos rfl]; rfl
theorem bd4 : boundW stp0 4 = 0 := by unfold boundW; rw [if_neg (by simp [stp0_ok]), if_neg (by decide), if_neg (by decide), if_neg (by decide), if_neg (by decide)]
/-- A level's score of the law's setup. -/
theorem score_lv {v : Ver} {n0 n1 : Int} (hc : chkW v = 0) (h0 : ((lat v.levels 0).length : Int) = n0) (h1 : bytesTo (lat v.levels 1) (lat v.levels 1).length = n1) (h2 : lat v.levels 2 = []) (h3 : lat v.levels 3 = []) :
    scoreW v stp0 0 = n0 * 100 / 2 ∧ scoreW v stp0 1 = n1 * 100 / 100 ∧ scoreW v stp0 2 = 0 ∧ scoreW v stp0 3 = 0 ∧ scoreW v stp0 4 = 0 := by
  have h5 := (good_small hc).1
  refine ⟨?_, ?_, ?_, ?_, ?_⟩
  · unfold scoreW; rw [show ((0 : Nat) : Int) = 0 from rfl, bd0, if_neg (by decide), if_pos rfl, h0]
  · unfold scoreW
    rw [show ((1 : Nat) : Int) = 1 from rfl, bd1, if_neg (by decide), if_neg (by decide)]
    unfold bytesOfLev
    rw [if_pos ⟨hc, by decide, by rw [h5]; decide⟩, show (1 : Int).toNat = 1 from rfl, h1]
  · unfold scoreW
    rw [bytesOfLev_nil h2]; simp
  · unfold scoreW
    rw [bytesOfLev_nil h3]; simp
  · unfold scoreW
    rw [show ((4 : Nat) : Int) = 4 from rfl, bd4, if_pos rfl]
theorem worst_lv {v : Ver} {n0 n1 : Int} (hc : chkW v = 0) (h0 : ((lat v.levels 0).length : Int) = n0) (h1 : bytesTo (lat v.levels 1) (lat v.levels 1).length = n1) (h2 : lat v.levels 2 = []) (h3 : lat v.levels 3 = []) :
    worstTo v stp0 5 = (let a : Nat × Int := if 0 < n0 * 100 / 2 then (0, n0 * 100 / 2) else (0, 0); let b := if a.2 < n1 * 100 / 100 then (1, n1 * 100 / 100) else a; let c := if b.2 < 0 then (2, 0) else b; let d := if c.2 < 0 then (3, 0) else c; if d.2 < 0 then (4, 0) else d) := by
  obtain ⟨e0, e1, e2, e3, e4⟩ := score_lv hc h0 h1 h2 h3
  simp only [worstTo, e0, e1, e2, e3, e4]
theorem worst_q1 : worstTo q1 stp0 5 = (0, 100) := by rw [worst_lv (n0 := 2) (n1 := 0) chk_q1 rfl (by decide) rfl rfl]; decide
theorem worst_q2 : worstTo q2 stp0 5 = (0, 150) := by rw [worst_lv (n0 := 3) (n1 := 0) chk_q2 rfl (by decide) rfl rfl]; decide
theorem worst_q3 : worstTo q3 stp0 5 = (1, 250) := by rw [worst_lv (n0 := 0) (n1 := 250) chk_q3 rfl (by decide) rfl rfl]; decide
theorem worst_q4 : worstTo q4 stp0 5 = (1, 99) := by rw [worst_lv (n0 := 0) (n1 := 99) chk_q4 rfl (by decide) rfl rfl]; decide
theorem nx_of {v : Ver} {s : Stp} {i : Nat} {n : Int} (hc : chkW v = 0) (hs : stpW s = 0) (hw : worstTo v s 5 = (i, n)) : nextW v s = (if n < 100 then 6 else 0) ∧ jLev v s = i := by
  unfold nextW jLev
  rw [if_neg (by simp [mayW_of hc hs]), hw]
  exact ⟨rfl, rfl⟩
theorem up_q1 : (jUp q1 0).length = 1 := by decide +kernel
theorem up_q2 : (jUp q2 0).length = 3 := by decide +kernel
theorem lo_nil {v : Ver} {i : Nat} (h : lat v.levels (i + 1) = []) : jLo v i = [] := by
  unfold jLo overB
  split
  · rw [show ((i : Int) + 1).toNat = i + 1 by omega, h]; rfl
  · rfl
theorem bot_q3 : jBot q3 1 = true := by
  unfold jBot deepB
  rw [if_pos ⟨chk_q3, by decide⟩]
  unfold clearFrom
  rfl

/-- Next, where the job's measures are known. -/
theorem next_ok {v : Ver} {s : Stp} {i nu nl : Nat} {b : Bool} (h0 : nextW v s = 0) (hi : jLev v s = i) (hU : (jUp v i).length = nu) (hL : (jLo v i).length = nl) (hB : jBot v i = b) (lv : Value) (w : World) (h : Rw (rowK filK) Any w lv v.levels) (hw : v.wf) (hfew : cntTo v.levels v.levels.length ≤ 1000000) :
    Calls Try.prog 13 #[.agg (verCells v lv).toArray, .agg (stpCells s).toArray] w fun x w' => ∃ a1 c1 a2 c2 a3 n3 c3 a4 n4 c4, x = .returned (.tuple #[.agg #[.int .i64 (i : Int), .slice a1 nu c1, .slice a2 nl c2, .slice a3 n3 c3, .slice a4 n4 c4, .bool b], .int .i64 0]) ∧ Below w.heap.size w w' := by
  refine (next_any Any v s lv w h hw hfew).mono fun x w' ⟨_, h2, h3⟩ => ?_
  obtain ⟨u, lo, le, mo, rfl, g1, g2, g3, g4⟩ := h2 h0
  rw [hi] at g1 g2 g3 g4 ⊢
  obtain ⟨a1, c1, rfl⟩ := g1.isSlice
  obtain ⟨a2, c2, rfl⟩ := g2.isSlice
  obtain ⟨a3, c3, rfl⟩ := g3.isSlice
  obtain ⟨a4, c4, rfl⟩ := g4.isSlice
  rw [hU, hL, hB]
  exact ⟨a1, c1, a2, c2, a3, _, c3, a4, _, c4, rfl, h3⟩
theorem next_no {v : Ver} {s : Stp} (c : Int) (h0 : nextW v s = c) (hc : c ≠ 0) (lv : Value) (w : World) (h : Rw (rowK filK) Any w lv v.levels) (hw : v.wf) (hfew : cntTo v.levels v.levels.length ≤ 1000000) :
    Calls Try.prog 13 #[.agg (verCells v lv).toArray, .agg (stpCells s).toArray] w fun x w' => x = .returned (.tuple #[.agg job0.toArray, .int .i64 c]) ∧ Below w.heap.size w w' := by
  refine (next_any Any v s lv w h hw hfew).mono fun x w' ⟨h1, _, h3⟩ => ?_
  rw [h1 (by rw [h0]; exact hc), h0]
  exact ⟨rfl, h3⟩
end Go.Proofs.Ytkcohhldmhdcfaa
