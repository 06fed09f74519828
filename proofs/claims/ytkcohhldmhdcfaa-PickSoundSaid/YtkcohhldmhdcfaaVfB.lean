/- Chapter 12's document: key, file, behind. -/
import Derived.Test.YtkcohhldmhdcfaaVfA
namespace Go.Proofs.Ytkcohhldmhdcfaa
open Go.RowKit

theorem rkey_any (F : Nat → Prop) (v : Value) (k : List UInt8) (w : World) (h : Bytes F w v k) :
    Calls Try.prog 100 #[v] w fun e w' => e = .returned (.bool (keyOk k)) ∧ w = w' := by
  obtain ⟨a, c, rfl⟩ := h.isSlice
  clear h
  go_enter Try.func100, Try.ntmps100
  by_cases h1 : 1 ≤ k.length
  · have h1' : (1 : Int) ≤ (k.length : Int) := by omega
    by_cases h2 : k.length ≤ 4096
    · have h2' : (k.length : Int) ≤ 4096 := by omega
      have HK : Hid (keyOk k = true) := by show _ = _; unfold keyOk; simp [h1, h2]
      go_wp2_with fail
      go_ret
      exact ⟨ret_bool HK.out.symm, rfl⟩
    · have h2' : decide ((k.length : Int) ≤ 4096) = false := decide_eq_false (by omega)
      have HK : Hid (keyOk k = false) := by show _ = _; unfold keyOk; simp; omega
      go_wp2_with fail
      go_ret
      exact ⟨ret_bool HK.out.symm, rfl⟩
  · have h1' : decide ((1 : Int) ≤ (k.length : Int)) = false := decide_eq_false (by omega)
    have HK : Hid (keyOk k = false) := by show _ = _; unfold keyOk; simp; omega
    go_wp2_with fail
    go_ret
    exact ⟨ret_bool HK.out.symm, rfl⟩

theorem bcmp_le {a b : List UInt8} : Ent.bcmp a b ≤ 0 ↔ Op.bytesLess b a = false := by
  have h1 := @bless_anti a b
  have h2 := @bless_anti b a
  unfold Ent.bcmp
  cases h : Op.bytesLess a b <;> cases k : Op.bytesLess b a <;> simp_all
theorem bcmp_lt {a b : List UInt8} : Ent.bcmp a b < 0 ↔ Op.bytesLess a b = true := by
  have h1 := @bless_anti a b
  have h2 := @bless_anti b a
  unfold Ent.bcmp
  cases h : Op.bytesLess a b <;> cases k : Op.bytesLess b a <;> simp_all
open Classical in
/-- May a file be, below a number? -/
noncomputable def fileB (f : Fil) (next : Int) : Bool := decide (f.Fine ∧ f.num < next)
theorem fileB_no {f : Fil} {next : Int} (h : ¬ (f.Fine ∧ f.num < next)) : fileB f next = false := by unfold fileB; simp [h]
theorem fileB_yes {f : Fil} {next : Int} (h : f.Fine ∧ f.num < next) : fileB f next = true := by unfold fileB; simp [h]
theorem fileB_iff {f : Fil} {next : Int} : fileB f next = true ↔ f.Fine ∧ f.num < next := by unfold fileB; simp

set_option maxRecDepth 100000 in
set_option maxHeartbeats 4000000 in
theorem rfile_any (F G : Nat → Prop) (f : Fil) (vl vm : Value) (next : Int) (w : World) (hl : Bytes F w vl f.least) (hm : Bytes G w vm f.most) :
    Calls Try.prog 50 #[.agg (filCells f vl vm).toArray, .int .u64 next] w fun e w' => e = .returned (.bool (fileB f next)) ∧ Below w.heap.size w w' := by
  obtain ⟨la, lc, rfl⟩ := hl.isSlice
  obtain ⟨ma, mc, rfl⟩ := hm.isSlice
  have HL := Lib.hid hl
  have HM := Lib.hid hm
  clear hl hm
  unfold filCells
  go_enter Try.func50, Try.ntmps50
  go_upto_region 1 with fail
  refine wp_gen fun w1 hw1 => ?_
  have HX1 : Hid (Blk w1 w.heap.size (filCells f (.slice la f.least.length lc) (.slice ma f.most.length mc)).toArray 42) := by rw [hw1]; exact Blk.at_new rfl rfl
  have HW1 : Hid (Below w.heap.size w w1) := by rw [hw1]; exact (Below.refl _ _).alloc (Nat.le_refl _) _
  clear hw1

  obtain ⟨x0, x1, x2, x3, x4, x5⟩ := C6.blk HX1.out
  by_cases h0 : 1 ≤ f.num
  case neg =>
    have g0 : f.num < 1 := by omega
    have HQ : Hid (fileB f next = false) := fileB_no (fun e => h0 e.1.num)
    clear h0
    go_wp2_with fail
    go_ret
    exact ⟨ret_bool HQ.out.symm, HW1.out⟩
  by_cases h1 : f.num < next
  case neg =>
    have g1 : next ≤ f.num := by omega
    have HQ : Hid (fileB f next = false) := fileB_no (fun e => h1 e.2)
    clear h1
    go_wp2_with fail
    go_ret
    exact ⟨ret_bool HQ.out.symm, HW1.out⟩
  by_cases h2 : 0 ≤ f.size
  case neg =>
    have g2 : f.size < 0 := by omega
    have HQ : Hid (fileB f next = false) := fileB_no (fun e => h2 e.1.s0)
    clear h2
    go_wp2_with fail
    go_ret
    exact ⟨ret_bool HQ.out.symm, HW1.out⟩
  by_cases h3 : f.size ≤ 16777216
  case neg =>
    have g3 : 16777216 < f.size := by omega
    have HQ : Hid (fileB f next = false) := fileB_no (fun e => h3 e.1.s1)
    clear h3
    go_wp2_with fail
    go_ret
    exact ⟨ret_bool HQ.out.symm, HW1.out⟩
  by_cases h4 : 1 ≤ f.ents
  case neg =>
    have g4 : f.ents < 1 := by omega
    have HQ : Hid (fileB f next = false) := fileB_no (fun e => h4 e.1.e0)
    clear h4
    go_wp2_with fail
    go_ret
    exact ⟨ret_bool HQ.out.symm, HW1.out⟩
  by_cases h5 : f.ents ≤ 16777216
  case neg =>
    have g5 : 16777216 < f.ents := by omega
    have HQ : Hid (fileB f next = false) := fileB_no (fun e => h5 e.1.e1)
    clear h5
    go_wp2_with fail
    go_ret
    exact ⟨ret_bool HQ.out.symm, HW1.out⟩
  by_cases h6 : f.mseq ≤ 72057594037927935
  case neg =>
    have g6 : 72057594037927935 < f.mseq := by omega
    have HQ : Hid (fileB f next = false) := fileB_no (fun e => h6 e.1.seq)
    clear h6
    go_wp2_with fail
    go_ret
    exact ⟨ret_bool HQ.out.symm, HW1.out⟩
  have HH : Hid (1 ≤ f.num ∧ f.num < next ∧ 0 ≤ f.size ∧ f.size ≤ 16777216 ∧ 1 ≤ f.ents ∧ f.ents ≤ 16777216 ∧ f.mseq ≤ 72057594037927935) := ⟨h0, h1, h2, h3, h4, h5, h6⟩
  go_wp2_with fail
  clear h0 h1 h2 h3 h4 h5 h6
  refine Calls.mono (rkey_any _ _ f.least w1 (HL.out.below (by first | exact HW1.out))) ?_
  rintro _ w2 ⟨rfl, rfl⟩
  obtain ⟨r, hr⟩ : ∃ r, keyOk f.least = r := ⟨_, rfl⟩
  have HR := Lib.hid hr
  rw [hr]
  clear hr
  cases r with
  | false =>
    have HQ : Hid (fileB f next = false) := fileB_no fun e => by have h := e.1.least; rw [HR.out] at h; cases h
    go_wp2_with fail
    go_ret
    exact ⟨ret_bool HQ.out.symm, HW1.out⟩
  | true =>
    go_wp2_with fail
    refine Calls.mono (rkey_any _ _ f.most w1 (HM.out.below (by first | exact HW1.out))) ?_
    rintro _ w2 ⟨rfl, rfl⟩
    obtain ⟨r2, hr⟩ : ∃ r, keyOk f.most = r := ⟨_, rfl⟩
    have HR2 := Lib.hid hr
    rw [hr]
    clear hr
    cases r2 with
    | false =>
      have HQ : Hid (fileB f next = false) := fileB_no fun e => by have h := e.1.most; rw [HR2.out] at h; cases h
      go_wp2_with fail
      go_ret
      exact ⟨ret_bool HQ.out.symm, HW1.out⟩
    | true =>
      go_wp2_with fail
      refine Calls.mono (rbefore_any _ _ _ f.most _ f.least w1 (HM.out.below (by first | exact HW1.out)) (HL.out.below (by first | exact HW1.out))) ?_
      rintro _ w2 ⟨rfl, hq⟩
      have HW2 : Hid (Below w.heap.size w w2) := by
        obtain ⟨n, rfl⟩ := hq
        exact below_dn HW1.out n
      clear hq
      obtain ⟨r3, hr⟩ : ∃ r, Op.bytesLess f.most f.least = r := ⟨_, rfl⟩
      have HR3 := Lib.hid hr
      rw [hr]
      clear hr
      cases r3 with
      | false =>
        have HQ : Hid (fileB f next = true) := fileB_yes ⟨⟨HH.out.1, HH.out.2.2.1, HH.out.2.2.2.1, HR.out, HR2.out, bcmp_le.2 HR3.out, HH.out.2.2.2.2.1, HH.out.2.2.2.2.2.1, HH.out.2.2.2.2.2.2⟩, HH.out.2.1⟩
        go_wp2_with fail
        go_ret
        exact ⟨ret_bool HQ.out.symm, HW2.out⟩
      | true =>
        have HQ : Hid (fileB f next = false) := fileB_no fun e => by have h := bcmp_le.1 e.1.order; rw [HR3.out] at h; cases h
        go_wp2_with fail
        go_ret
        exact ⟨ret_bool HQ.out.symm, HW2.out⟩

open Classical in
noncomputable def behindB (lv : Nat) (a b : Fil) : Bool := decide (behind lv a b)
theorem behindB_iff {lv : Nat} {a b : Fil} : behindB lv a b = true ↔ behind lv a b := by unfold behindB; simp

set_option maxRecDepth 100000 in
set_option maxHeartbeats 4000000 in
theorem rbehind_any (F G F' G' : Nat → Prop) (i : Nat) (x y : Fil) (xl xm yl ym : Value) (w : World) (h1 : Bytes F w xl x.least) (h2 : Bytes F' w xm x.most) (h3 : Bytes G w yl y.least) (h4 : Bytes G' w ym y.most) :
    Calls Try.prog 51 #[.agg (filCells x xl xm).toArray, .agg (filCells y yl ym).toArray, .int .i64 (i : Int)] w fun e w' => e = .returned (.bool (behindB i x y)) ∧ Below w.heap.size w w' := by
  obtain ⟨xla, xlc, rfl⟩ := h1.isSlice
  obtain ⟨xma, xmc, rfl⟩ := h2.isSlice
  obtain ⟨yla, ylc, rfl⟩ := h3.isSlice
  obtain ⟨yma, ymc, rfl⟩ := h4.isSlice
  have H2 := Lib.hid h2
  have H3 := Lib.hid h3
  clear h1 h2 h3 h4
  unfold filCells
  go_enter Try.func51, Try.ntmps51
  go_upto_region 1 with fail
  refine wp_gen fun w1 hw1 => ?_
  have HX1 : Hid (Blk w1 w.heap.size (filCells x (.slice xla x.least.length xlc) (.slice xma x.most.length xmc)).toArray 42) := by rw [hw1]; exact (Blk.at_new rfl rfl).alloc _
  have HY1 : Hid (Blk w1 (w.heap.size + 1) (filCells y (.slice yla y.least.length ylc) (.slice yma y.most.length ymc)).toArray 42) := by rw [hw1]; exact blk_two _ _ _ _
  have HW1 : Hid (Below w.heap.size w w1) := by rw [hw1]; exact below_two _ _ _
  clear hw1
  generalize w.heap.size + 1 = yb at *
  have x0 : w1.cell? ⟨w.heap.size, 0, none⟩ = some (.int .u64 x.num) := HX1.out.cell rfl
  have x3 : w1.cell? ⟨w.heap.size, 3, none⟩ = some (.slice xma x.most.length xmc) := HX1.out.cell rfl
  have y0 : w1.cell? ⟨yb, 0, none⟩ = some (.int .u64 y.num) := HY1.out.cell rfl
  have y2 : w1.cell? ⟨yb, 2, none⟩ = some (.slice yla y.least.length ylc) := HY1.out.cell rfl
  by_cases h0 : i = 0
  · subst h0
    by_cases hn : x.num < y.num
    · have HE : Hid (behindB 0 x y = true) := behindB_iff.2 (by unfold behind; rw [if_pos rfl]; exact hn)
      go_wp2_with fail
      go_ret
      exact ⟨by first | exact ret_bool HE.out.symm | (rw [HE.out]; simp [hn]), HW1.out⟩
    · have HE : Hid (behindB 0 x y = false) := by
        show _ = _
        cases hb : behindB 0 x y with
        | false => rfl
        | true => have h5 := behindB_iff.1 hb; unfold behind at h5; rw [if_pos rfl] at h5; exact absurd h5 hn
      go_wp2_with fail
      go_ret
      exact ⟨by first | exact ret_bool HE.out.symm | (rw [HE.out]; simp [hn]), HW1.out⟩
  · have g0 : ((i : Int) == 0) = false := by simp; omega
    have HE : Hid (behindB i x y = Op.bytesLess x.most y.least) := by
      show _ = _
      rw [Bool.eq_iff_iff, behindB_iff]
      unfold behind
      rw [if_neg h0]
      exact bcmp_lt
    go_wp2_with fail
    refine Calls.mono (rbefore_any _ _ _ x.most _ y.least w1 (H2.out.below HW1.out) (H3.out.below HW1.out)) ?_
    rintro _ w2 ⟨rfl, hq⟩
    have HW2 : Hid (Below w.heap.size w w2) := by
      obtain ⟨n, rfl⟩ := hq
      exact below_dn HW1.out n
    clear hq
    go_wp2_with fail
    go_ret
    exact ⟨ret_bool HE.out.symm, HW2.out⟩
end Go.Proofs.Ytkcohhldmhdcfaa
