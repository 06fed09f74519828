/- Chapter 12's document: short numbers' sizes. Chapter 12's document: key, file, behind. Chapter 12's document: how many bytes the edit has that makes a version. -/
import Derived.Test.YtkcohhldmhdcfaaVeOa
namespace Go.Proofs.Ytkcohhldmhdcfaa
open Go.RowKit

/-- A short number's bytes. -/
def numE (n : Nat) : List UInt8 := if h : n < 128 then [UInt8.ofNat n] else UInt8.ofNat (n % 128 + 128) :: numE (n / 128)
termination_by n
decreasing_by omega
theorem numE_small {n : Nat} (h : n < 128) : numE n = [UInt8.ofNat n] := by rw [numE, dif_pos h]
theorem numE_more {n : Nat} (h : ¬ n < 128) : numE n = UInt8.ofNat (n % 128 + 128) :: numE (n / 128) := by rw [numE, dif_neg h]
theorem numE_len (n : Nat) : (numE n).length = sizeN n := by
  induction n using Nat.strongRecOn with
  | ind n ih =>
    by_cases h : n < 128
    · rw [numE_small h, sizeN_small h]; rfl
    · rw [numE_more h, sizeN_more h, List.length_cons, ih (n / 128) (by omega)]
theorem byte_lit {n : Nat} (h : n < 256) : ((UInt8.ofNat n).toNat : Int) = (n : Int) := by
  rw [UInt8.toNat_ofNat']
  have : n % 2 ^ 8 = n := Nat.mod_eq_of_lt h
  omega

set_option maxRecDepth 100000 in
set_option maxHeartbeats 2000000 in
theorem rnum_nil (x : Int) (w : World) (hx : u64In x) :
    Calls Try.prog 128 #[.slice none 0 0, .int .u64 x] w fun e w' => ∃ v', e = .returned v' ∧ Owned w.heap.size w' v' (numE x.toNat) ∧ Below w.heap.size w w' := by
  obtain ⟨n, rfl⟩ : ∃ n : Nat, x = (n : Int) := ⟨x.toNat, by have := hx.1; omega⟩
  have hn : n < 18446744073709551616 := by have := hx.2; omega
  have HL := Lib.hid (sizeN_le n hn)
  rw [Int.toNat_natCast]
  clear hx
  have HN := Lib.hid hn
  clear hn
  go_enter Try.func128, Try.ntmps128
  go_wp2_with fail
  go_loopw [0, 1] (fun bv xv wr => ∃ (m : Nat) (done : List UInt8), xv = .int .u64 (m : Int) ∧ Hid (m < 18446744073709551616) ∧ Hid (done ++ numE m = numE n) ∧ Hid (Owned w.heap.size wr bv done) ∧ Hid (Below w.heap.size w wr)) (fun _ xv _ => (intOf xv).toNat)
  case atStart => exact ⟨n, [], rfl, HN.out, rfl, Owned.nil _ _, Below.refl _ _⟩
  case round =>
    obtain ⟨m, done, rfl, HM, HD, HO, HB⟩ := hrel
    obtain ⟨ba, bn, bc, rfl⟩ := HO.out.isSlice
    by_cases hlt : m < 128
    · have t1 : decide ((128 : Int) ≤ (m : Int)) = false := decide_eq_false (by omega)
      have t2 : 0 ≤ (m : Int) := by omega
      have t3 : (m : Int) < 128 := by omega
      go_wp2_with (with_reducible refine pause_append ?_)
      refine list_gen fun w6 hw6 => ?_
      have HS6 : Hid (Bytes (fun k => k = wr.heap.size) w6 (.slice (some ⟨wr.heap.size, 0, none⟩) 1 1) [UInt8.ofNat m]) := by
        rw [hw6]
        exact Bytes.lit [UInt8.ofNat m] 1 rfl (heap_alloc_new _ _) (by simp only [u8s, List.map_cons, List.map_nil]; rw [byte_lit (by omega)]) (by simp [maxLen])
      have HB6 : Hid (Below wr.heap.size wr w6) := by rw [hw6]; exact (Below.refl _ _).alloc (Nat.le_refl _) _
      have HO6 := Lib.hid (HO.out.below HB6.out)
      have HLE : Hid (done.length ≤ 10) := by
        have h1 := congrArg List.length HD.out
        rw [List.length_append, numE_len, numE_len] at h1
        have := HL.out
        show _ ≤ _
        omega
      clear hw6
      refine Pause.go (wpList_append_bytes _ w.heap.size _ done _ [UInt8.ofNat m] rfl _ _ rfl rfl rfl HO6.out HS6.out (by have := HLE.out; simp only [List.length_singleton]; omega) (Nat.le_trans HB.out.size HB6.out.size) ?_)
      intro v7 w7 ho7 hg7
      have HE : Hid (done ++ [UInt8.ofNat m] = numE n) := by rw [← HD.out, numE_small hlt]; rfl
      have HP : Hid (Owned w.heap.size w7 v7 (numE n) ∧ Below w.heap.size w w7) := ⟨by rw [← HE.out]; exact ho7, (HB.out.trans (HB6.out.mono HB.out.size)).trans (hg7.below (Nat.le_trans HB.out.size HB6.out.size) fun k e => (World.ownsRow.lt HO6.out k e).1)⟩
      clear ho7 hg7 HS6 HB6 HO6 HO HB
      go_wp2_with fail
      go_ret
      exact ⟨v7, rfl, HP.out.1, HP.out.2⟩
    · have t1 : (128 : Int) ≤ (m : Int) := by omega
      have t2 : 0 ≤ (m : Int) := by omega
      go_wp2_with (with_reducible refine pause_append ?_)
      refine list_gen fun w6 hw6 => ?_
      have HS6 : Hid (Bytes (fun k => k = wr.heap.size) w6 (.slice (some ⟨wr.heap.size, 0, none⟩) 1 1) [UInt8.ofNat (m % 128 + 128)]) := by
        rw [hw6]
        refine Bytes.lit [UInt8.ofNat (m % 128 + 128)] 1 rfl (heap_alloc_new _ _) ?_ (by simp [maxLen])
        simp only [u8s, List.map_cons, List.map_nil]
        rw [byte_lit (by omega)]
        simp
      have HB6 : Hid (Below wr.heap.size wr w6) := by rw [hw6]; exact (Below.refl _ _).alloc (Nat.le_refl _) _
      have HO6 := Lib.hid (HO.out.below HB6.out)
      have HLE : Hid (done.length ≤ 10) := by
        have h1 := congrArg List.length HD.out
        rw [List.length_append, numE_len, numE_len] at h1
        have := HL.out
        show _ ≤ _
        omega
      clear hw6
      refine Pause.go (wpList_append_bytes _ w.heap.size _ done _ [UInt8.ofNat (m % 128 + 128)] rfl _ _ rfl rfl rfl HO6.out HS6.out (by have := HLE.out; simp only [List.length_singleton]; omega) (Nat.le_trans HB.out.size HB6.out.size) ?_)
      intro v7 w7 ho7 hg7
      have HE : Hid ((done ++ [UInt8.ofNat (m % 128 + 128)]) ++ numE (m / 128) = numE n) := by rw [← HD.out, numE_more hlt, List.append_assoc]; rfl
      have HO7 := Lib.hid ho7
      have HB7 : Hid (Below w.heap.size w w7) := (HB.out.trans (HB6.out.mono HB.out.size)).trans (hg7.below (Nat.le_trans HB.out.size HB6.out.size) fun k e => (World.ownsRow.lt HO6.out k e).1)
      have HM7 : Hid (m / 128 < 18446744073709551616) := by have := HM.out; show _ < _; omega
      have hdv : IntKind.u64.wrap ((m : Int) / 128) = ((m / 128 : Nat) : Int) := by
        have := HM.out
        rw [wrapU ⟨by omega, by omega⟩]
        omega
      have HDV := Lib.hid hdv
      have HMS : Hid (m / 128 < m) := by show _ < _; omega
      clear ho7 hg7 HS6 HB6 HO6 HO HB hdv
      go_wp2_with fail
      go_roundw
      · exact ⟨m / 128, _, int_eq HDV.out, HM7.out, HE.out, HO7.out, HB7.out⟩
      · have := HMS.out
        simp only [intOf]
        rw [HDV.out]
        omega
set_option maxRecDepth 100000 in
theorem rsize_any (x : Int) (w : World) (hx : u64In x) :
    Calls Try.prog 101 #[.int .u64 x] w fun e w' => e = .returned (.int .i64 (sizeN x.toNat : Int)) ∧ Below w.heap.size w w' := by
  have HX := Lib.hid hx
  clear hx
  go_enter Try.func101, Try.ntmps101
  go_wp2_with fail
  refine Calls.mono (rnum_nil x w HX.out) ?_
  rintro _ w1 ⟨v, rfl, ho, hb⟩
  obtain ⟨a, c, rfl⟩ := ho.bytes.isSlice
  have HB := Lib.hid hb
  have HL : Hid ((numE x.toNat).length = sizeN x.toNat) := numE_len _
  clear ho hb
  rw [HL.out]
  go_wp2_with fail
  go_ret
  exact ⟨rfl, HB.out⟩
end Go.Proofs.Ytkcohhldmhdcfaa

namespace Go.Proofs.Ytkcohhldmhdcfaa
open Go.RowKit

theorem rkey_any (F : Nat → Prop) (v : Value) (k : List UInt8) (w : World) (h : Bytes F w v k) :
    Calls Try.prog 100 #[v] w fun e w' => e = .returned (.bool (keyOk k)) ∧ w = w' := by
  obtain ⟨a, c, rfl⟩ := h.isSlice
  clear h
  go_enter Try.func100, Try.ntmps100
  by_cases h1 : 1 ≤ k.length
  · have h1' : (1 : Int) ≤ (k.length : Int) := by omega
    by_cases h2 : k.length ≤ 4096
    · have h2' : (k.length : Int) ≤ 4096 := by omega
      have HK : Hid (keyOk k = true) := by show _ = _; unfold keyOk; simp [h1, h2]
      go_wp2_with fail
      go_ret
      exact ⟨ret_bool HK.out.symm, rfl⟩
    · have h2' : decide ((k.length : Int) ≤ 4096) = false := decide_eq_false (by omega)
      have HK : Hid (keyOk k = false) := by show _ = _; unfold keyOk; simp; omega
      go_wp2_with fail
      go_ret
      exact ⟨ret_bool HK.out.symm, rfl⟩
  · have h1' : decide ((1 : Int) ≤ (k.length : Int)) = false := decide_eq_false (by omega)
    have HK : Hid (keyOk k = false) := by show _ = _; unfold keyOk; simp; omega
    go_wp2_with fail
    go_ret
    exact ⟨ret_bool HK.out.symm, rfl⟩

theorem bcmp_le {a b : List UInt8} : Ent.bcmp a b ≤ 0 ↔ Op.bytesLess b a = false := by
  have h1 := @bless_anti a b
  have h2 := @bless_anti b a
  unfold Ent.bcmp
  cases h : Op.bytesLess a b <;> cases k : Op.bytesLess b a <;> simp_all
theorem bcmp_lt {a b : List UInt8} : Ent.bcmp a b < 0 ↔ Op.bytesLess a b = true := by
  have h1 := @bless_anti a b
  have h2 := @bless_anti b a
  unfold Ent.bcmp
  cases h : Op.bytesLess a b <;> cases k : Op.bytesLess b a <;> simp_all
open Classical in
/-- May a file be, below a number? -/
noncomputable def fileB (f : Fil) (next : Int) : Bool := decide (f.Fine ∧ f.num < next)
theorem fileB_no {f : Fil} {next : Int} (h : ¬ (f.Fine ∧ f.num < next)) : fileB f next = false := by unfold fileB; simp [h]
theorem fileB_yes {f : Fil} {next : Int} (h : f.Fine ∧ f.num < next) : fileB f next = true := by unfold fileB; simp [h]
theorem fileB_iff {f : Fil} {next : Int} : fileB f next = true ↔ f.Fine ∧ f.num < next := by unfold fileB; simp

set_option maxRecDepth 100000 in
set_option maxHeartbeats 4000000 in
theorem rfile_any (F G : Nat → Prop) (f : Fil) (vl vm : Value) (next : Int) (w : World) (hl : Bytes F w vl f.least) (hm : Bytes G w vm f.most) :
    Calls Try.prog 50 #[.agg (filCells f vl vm).toArray, .int .u64 next] w fun e w' => e = .returned (.bool (fileB f next)) ∧ Below w.heap.size w w' := by
  obtain ⟨la, lc, rfl⟩ := hl.isSlice
  obtain ⟨ma, mc, rfl⟩ := hm.isSlice
  have HL := Lib.hid hl
  have HM := Lib.hid hm
  clear hl hm
  unfold filCells
  go_enter Try.func50, Try.ntmps50
  go_upto_region 1 with fail
  refine wp_gen fun w1 hw1 => ?_
  have HX1 : Hid (Blk w1 w.heap.size (filCells f (.slice la f.least.length lc) (.slice ma f.most.length mc)).toArray 42) := by rw [hw1]; exact Blk.at_new rfl rfl
  have HW1 : Hid (Below w.heap.size w w1) := by rw [hw1]; exact (Below.refl _ _).alloc (Nat.le_refl _) _
  clear hw1

  obtain ⟨x0, x1, x2, x3, x4, x5⟩ := C6.blk HX1.out
  by_cases h0 : 1 ≤ f.num
  case neg =>
    have g0 : f.num < 1 := by omega
    have HQ : Hid (fileB f next = false) := fileB_no (fun e => h0 e.1.num)
    clear h0
    go_wp2_with fail
    go_ret
    exact ⟨ret_bool HQ.out.symm, HW1.out⟩
  by_cases h1 : f.num < next
  case neg =>
    have g1 : next ≤ f.num := by omega
    have HQ : Hid (fileB f next = false) := fileB_no (fun e => h1 e.2)
    clear h1
    go_wp2_with fail
    go_ret
    exact ⟨ret_bool HQ.out.symm, HW1.out⟩
  by_cases h2 : 0 ≤ f.size
  case neg =>
    have g2 : f.size < 0 := by omega
    have HQ : Hid (fileB f next = false) := fileB_no (fun e => h2 e.1.s0)
    clear h2
    go_wp2_with fail
    go_ret
    exact ⟨ret_bool HQ.out.symm, HW1.out⟩
  by_cases h3 : f.size ≤ 16777216
  case neg =>
    have g3 : 16777216 < f.size := by omega
    have HQ : Hid (fileB f next = false) := fileB_no (fun e => h3 e.1.s1)
    clear h3
    go_wp2_with fail
    go_ret
    exact ⟨ret_bool HQ.out.symm, HW1.out⟩
  by_cases h4 : 1 ≤ f.ents
  case neg =>
    have g4 : f.ents < 1 := by omega
    have HQ : Hid (fileB f next = false) := fileB_no (fun e => h4 e.1.e0)
    clear h4
    go_wp2_with fail
    go_ret
    exact ⟨ret_bool HQ.out.symm, HW1.out⟩
  by_cases h5 : f.ents ≤ 16777216
  case neg =>
    have g5 : 16777216 < f.ents := by omega
    have HQ : Hid (fileB f next = false) := fileB_no (fun e => h5 e.1.e1)
    clear h5
    go_wp2_with fail
    go_ret
    exact ⟨ret_bool HQ.out.symm, HW1.out⟩
  by_cases h6 : f.mseq ≤ 72057594037927935
  case neg =>
    have g6 : 72057594037927935 < f.mseq := by omega
    have HQ : Hid (fileB f next = false) := fileB_no (fun e => h6 e.1.seq)
    clear h6
    go_wp2_with fail
    go_ret
    exact ⟨ret_bool HQ.out.symm, HW1.out⟩
  have HH : Hid (1 ≤ f.num ∧ f.num < next ∧ 0 ≤ f.size ∧ f.size ≤ 16777216 ∧ 1 ≤ f.ents ∧ f.ents ≤ 16777216 ∧ f.mseq ≤ 72057594037927935) := ⟨h0, h1, h2, h3, h4, h5, h6⟩
  go_wp2_with fail
  clear h0 h1 h2 h3 h4 h5 h6
  refine Calls.mono (rkey_any _ _ f.least w1 (HL.out.below (by first | exact HW1.out))) ?_
  rintro _ w2 ⟨rfl, rfl⟩
  obtain ⟨r, hr⟩ : ∃ r, keyOk f.least = r := ⟨_, rfl⟩
  have HR := Lib.hid hr
  rw [hr]
  clear hr
  cases r with
  | false =>
    have HQ : Hid (fileB f next = false) := fileB_no fun e => by have h := e.1.least; rw [HR.out] at h; cases h
    go_wp2_with fail
    go_ret
    exact ⟨ret_bool HQ.out.symm, HW1.out⟩
  | true =>
    go_wp2_with fail
    refine Calls.mono (rkey_any _ _ f.most w1 (HM.out.below (by first | exact HW1.out))) ?_
    rintro _ w2 ⟨rfl, rfl⟩
    obtain ⟨r2, hr⟩ : ∃ r, keyOk f.most = r := ⟨_, rfl⟩
    have HR2 := Lib.hid hr
    rw [hr]
    clear hr
    cases r2 with
    | false =>
      have HQ : Hid (fileB f next = false) := fileB_no fun e => by have h := e.1.most; rw [HR2.out] at h; cases h
      go_wp2_with fail
      go_ret
      exact ⟨ret_bool HQ.out.symm, HW1.out⟩
    | true =>
      go_wp2_with fail
      refine Calls.mono (rbefore_any _ _ _ f.most _ f.least w1 (HM.out.below (by first | exact HW1.out)) (HL.out.below (by first | exact HW1.out))) ?_
      rintro _ w2 ⟨rfl, hq⟩
      have HW2 : Hid (Below w.heap.size w w2) := by
        obtain ⟨n, rfl⟩ := hq
        exact below_dn HW1.out n
      clear hq
      obtain ⟨r3, hr⟩ : ∃ r, Op.bytesLess f.most f.least = r := ⟨_, rfl⟩
      have HR3 := Lib.hid hr
      rw [hr]
      clear hr
      cases r3 with
      | false =>
        have HQ : Hid (fileB f next = true) := fileB_yes ⟨⟨HH.out.1, HH.out.2.2.1, HH.out.2.2.2.1, HR.out, HR2.out, bcmp_le.2 HR3.out, HH.out.2.2.2.2.1, HH.out.2.2.2.2.2.1, HH.out.2.2.2.2.2.2⟩, HH.out.2.1⟩
        go_wp2_with fail
        go_ret
        exact ⟨ret_bool HQ.out.symm, HW2.out⟩
      | true =>
        have HQ : Hid (fileB f next = false) := fileB_no fun e => by have h := bcmp_le.1 e.1.order; rw [HR3.out] at h; cases h
        go_wp2_with fail
        go_ret
        exact ⟨ret_bool HQ.out.symm, HW2.out⟩

open Classical in
noncomputable def behindB (lv : Nat) (a b : Fil) : Bool := decide (behind lv a b)
theorem behindB_iff {lv : Nat} {a b : Fil} : behindB lv a b = true ↔ behind lv a b := by unfold behindB; simp

set_option maxRecDepth 100000 in
set_option maxHeartbeats 4000000 in
theorem rbehind_any (F G F' G' : Nat → Prop) (i : Nat) (x y : Fil) (xl xm yl ym : Value) (w : World) (h1 : Bytes F w xl x.least) (h2 : Bytes F' w xm x.most) (h3 : Bytes G w yl y.least) (h4 : Bytes G' w ym y.most) :
    Calls Try.prog 51 #[.agg (filCells x xl xm).toArray, .agg (filCells y yl ym).toArray, .int .i64 (i : Int)] w fun e w' => e = .returned (.bool (behindB i x y)) ∧ Below w.heap.size w w' := by
  obtain ⟨xla, xlc, rfl⟩ := h1.isSlice
  obtain ⟨xma, xmc, rfl⟩ := h2.isSlice
  obtain ⟨yla, ylc, rfl⟩ := h3.isSlice
  obtain ⟨yma, ymc, rfl⟩ := h4.isSlice
  have H2 := Lib.hid h2
  have H3 := Lib.hid h3
  clear h1 h2 h3 h4
  unfold filCells
  go_enter Try.func51, Try.ntmps51
  go_upto_region 1 with fail
  refine wp_gen fun w1 hw1 => ?_
  have HX1 : Hid (Blk w1 w.heap.size (filCells x (.slice xla x.least.length xlc) (.slice xma x.most.length xmc)).toArray 42) := by rw [hw1]; exact (Blk.at_new rfl rfl).alloc _
  have HY1 : Hid (Blk w1 (w.heap.size + 1) (filCells y (.slice yla y.least.length ylc) (.slice yma y.most.length ymc)).toArray 42) := by rw [hw1]; exact blk_two _ _ _ _
  have HW1 : Hid (Below w.heap.size w w1) := by rw [hw1]; exact below_two _ _ _
  clear hw1
  generalize w.heap.size + 1 = yb at *
  have x0 : w1.cell? ⟨w.heap.size, 0, none⟩ = some (.int .u64 x.num) := HX1.out.cell rfl
  have x3 : w1.cell? ⟨w.heap.size, 3, none⟩ = some (.slice xma x.most.length xmc) := HX1.out.cell rfl
  have y0 : w1.cell? ⟨yb, 0, none⟩ = some (.int .u64 y.num) := HY1.out.cell rfl
  have y2 : w1.cell? ⟨yb, 2, none⟩ = some (.slice yla y.least.length ylc) := HY1.out.cell rfl
  by_cases h0 : i = 0
  · subst h0
    by_cases hn : x.num < y.num
    · have HE : Hid (behindB 0 x y = true) := behindB_iff.2 (by unfold behind; rw [if_pos rfl]; exact hn)
      go_wp2_with fail
      go_ret
      exact ⟨by first | exact ret_bool HE.out.symm | (rw [HE.out]; simp [hn]), HW1.out⟩
    · have HE : Hid (behindB 0 x y = false) := by
        show _ = _
        cases hb : behindB 0 x y with
        | false => rfl
        | true => have h5 := behindB_iff.1 hb; unfold behind at h5; rw [if_pos rfl] at h5; exact absurd h5 hn
      go_wp2_with fail
      go_ret
      exact ⟨by first | exact ret_bool HE.out.symm | (rw [HE.out]; simp [hn]), HW1.out⟩
  · have g0 : ((i : Int) == 0) = false := by simp; omega
    have HE : Hid (behindB i x y = Op.bytesLess x.most y.least) := by
      show _ = _
      rw [Bool.eq_iff_iff, behindB_iff]
      unfold behind
      rw [if_neg h0]
      exact bcmp_lt
    go_wp2_with fail
    refine Calls.mono (rbefore_any _ _ _ x.most _ y.least w1 (H2.out.below HW1.out) (H3.out.below HW1.out)) ?_
    rintro _ w2 ⟨rfl, hq⟩
    have HW2 : Hid (Below w.heap.size w w2) := by
      obtain ⟨n, rfl⟩ := hq
      exact below_dn HW1.out n
    clear hq
    go_wp2_with fail
    go_ret
    exact ⟨ret_bool HE.out.symm, HW2.out⟩
end Go.Proofs.Ytkcohhldmhdcfaa

namespace Go.Proofs.Ytkcohhldmhdcfaa
open Go.RowKit

theorem sizes_seven (a b c d e f g : Int) : sizes [a, b, c, d, e, f, g] = sizeN a.toNat + sizeN b.toNat + sizeN c.toNat + sizeN d.toNat + sizeN e.toNat + sizeN f.toNat + sizeN g.toNat := by
  simp [sizes, sizesTo, Nat.add_assoc]
theorem sizes_four (a b c d : Int) : sizes [a, b, c, d] = sizeN a.toNat + sizeN b.toNat + sizeN c.toNat + sizeN d.toNat := by
  simp [sizes, sizesTo, Nat.add_assoc]
/-- The size of a number, under a name. -/
theorem rsize_at {z : Nat} (x : Int) (hx : u64In x) (hz : sizeN x.toNat = z) (w : World) : Calls Try.prog 101 #[.int .u64 x] w fun e w' => e = .returned (.int .i64 (z : Int)) ∧ Below w.heap.size w w' := by
  subst hz; exact rsize_any x w hx
theorem size_bd {x : Int} (hx : u64In x) : sizeN x.toNat ≤ 10 := sizeN_le _ (by have := hx.1; have := hx.2; omega)

set_option maxRecDepth 100000 in
set_option maxHeartbeats 16000000 in
theorem rbytes_any (F : Nat → Prop) (v : Ver) (lv : Value) (w : World) (h : Rw (rowK filK) F w lv v.levels) (hw : v.wf) (hc : cntTo v.levels v.levels.length ≤ 10000) (hm : v.levels.length ≤ 10) (hf : ∀ i, i < v.levels.length → ∀ f ∈ lat v.levels i, f.Fine) :
    Calls Try.prog 52 #[.agg (verCells v lv).toArray] w fun e w' => e = .returned (.int .i64 (lenV v : Int)) ∧ Below w.heap.size w w' := by
  obtain ⟨xa, ca, rfl⟩ := h.isSlice
  have HA : Hid (Rw (rowK filK) (· < w.heap.size) w (.slice xa v.levels.length ca) v.levels) := h.mono fun k hk _ => hk
  have HWF := Lib.hid hw
  have HF := Lib.hid hf
  have HCT := Lib.hid hc
  have HWL := Lib.hid h.lwf
  have HLS := Lib.hid (levsTo_le hm h.lwf hf)
  clear h hw hf hc
  obtain ⟨m, hm1⟩ : ∃ m, v.levels.length = m := ⟨_, rfl⟩
  have HM := Lib.hid hm1
  rw [hm1] at HA hm
  unfold verCells
  rw [hm1]
  clear hm1
  go_enter Try.func52, Try.ntmps52
  go_upto_region 2 with fail
  refine wp_gen fun w1 hw1 => ?_
  have HX1 : Hid (Blk w1 w.heap.size (verCells v (.slice xa m ca)).toArray 25) := by rw [hw1]; exact Blk.at_new rfl rfl
  have HW1 : Hid (Below w.heap.size w w1) := by rw [hw1]; exact (Below.refl _ _).alloc (Nat.le_refl _) _
  clear hw1
  obtain ⟨xb, hxb⟩ : ∃ b, w.heap.size = b := ⟨_, rfl⟩
  rw [hxb] at HX1
  have HXB := Lib.hid hxb
  try rw [hxb]
  clear hxb
  go_wp2_with fail
  go_loopw [3, 4, 5] (fun fv nv iv wr => ∃ (i : Nat), iv = .int .i64 (i : Int) ∧ i ≤ m ∧ fv = .int .i64 (cntTo v.levels i : Int) ∧ nv = .int .i64 (levsTo v.levels i : Int) ∧ Hid (Blk wr xb (verCells v (.slice xa m ca)).toArray 25) ∧ Hid (Below w.heap.size w wr)) (fun _ _ iv _ => m - (intOf iv).toNat)
  case atStart => exact ⟨0, rfl, by omega, rfl, rfl, HX1.out, HW1.out⟩
  case round =>
    obtain ⟨i, rfl, hi, rfl, rfl, HX, HB⟩ := hrel
    clear HX1 HW1
    have x0 : wr.cell? ⟨xb, 0, none⟩ = some (.slice xa m ca) := HX.out.cell rfl
    by_cases hlt : i < m
    · have t1 : (i : Int) < (m : Int) := by omega
      have t3 : 0 ≤ (i : Int) := by omega
      have hil : i < v.levels.length := by rw [HM.out]; exact hlt
      obtain ⟨bl, ol, capl, el, hbl, _, hcl⟩ := levs_at HA.out (by omega)
      obtain ⟨u, hu, c0⟩ := hcl i hil
      injection el with e1 e2 e3
      subst e1 e3
      clear e2 hcl
      have HC0 : Hid (w.cell? ⟨bl, ol + i, none⟩ = some u) := c0
      have HFI := Lib.hid (HF.out i hil)
      have HWI := Lib.hid (HWL.out i hil)
      have hlv : levsTo v.levels (i + 1) = levsTo v.levels i + levTo i (lat v.levels i) (lat v.levels i).length := rfl
      have hct : cntTo v.levels (i + 1) = cntTo v.levels i + (lat v.levels i).length := rfl
      obtain ⟨l, hl⟩ : ∃ l, lat v.levels i = l := ⟨_, rfl⟩
      rw [hl] at hu HFI HWI hlv hct
      have HTL := Lib.hid (levTo_le (i := i) (by omega) HWI.out HFI.out)
      obtain ⟨ua, uc, rfl⟩ := hu.isSlice
      obtain ⟨n, hn⟩ : ∃ n, l.length = n := ⟨_, rfl⟩
      have HLN := Lib.hid hn
      rw [hn] at HC0 hu hct
      have HLV := Lib.hid hlv
      have HCN := Lib.hid hct
      have HU := Lib.hid hu
      have HBL := Lib.hid hbl
      have HLE : Hid (cntTo v.levels i + n ≤ 10000) := by
        have h1 : ∀ j, j ≤ m → cntTo v.levels j ≤ 10000 := fun j hj => by
          have h2 : ∀ d, cntTo v.levels j ≤ cntTo v.levels (j + d) := fun d => by
            induction d with
            | zero => exact Nat.le_refl _
            | succ d ih => exact Nat.le_trans ih (Nat.le_add_right _ _)
          have h3 := h2 (m - j)
          rw [show j + (m - j) = m by omega, ← HM.out] at h3
          exact Nat.le_trans h3 HCT.out
        have := h1 (i + 1) (by omega)
        rw [hct] at this
        exact this
      have HLL : Hid (levsTo v.levels i ≤ cntTo v.levels i * 10000) := HLS.out i (by omega)
      obtain ⟨c, hc⟩ : ∃ c, cntTo v.levels i = c := ⟨_, rfl⟩
      have HCC := Lib.hid hc
      rw [hc] at HLE HLL
      rw [hc]
      obtain ⟨d, hd⟩ : ∃ d, levsTo v.levels i = d := ⟨_, rfl⟩
      have HDD := Lib.hid hd
      rw [hd]
      have hce := HLE.out
      have hde := HLL.out
      rw [hd] at hde
      clear hl hu hn hil hlv hct hc hd c0 hbl
      go_wp2_with fail
      clear x0
      go_loopw [3, 4, 6] (fun fv nv kv wr => ∃ (k : Nat), kv = .int .i64 (k : Int) ∧ k ≤ n ∧ fv = .int .i64 ((c + k : Nat) : Int) ∧ nv = .int .i64 ((d + levTo i l k : Nat) : Int) ∧ Hid (Blk wr xb (verCells v (.slice (some ⟨bl, ol, none⟩) m ca)).toArray 25) ∧ Hid (Below w.heap.size w wr)) (fun _ _ kv _ => n - (intOf kv).toNat)
      case atStart => exact ⟨0, rfl, by omega, rfl, by simp [levTo], HX.out, HB.out⟩
      case round =>
        obtain ⟨k, rfl, hk, rfl, rfl, HXk, HBk⟩ := hrel
        clear HX HB
        have x0 : wr.cell? ⟨xb, 0, none⟩ = some (.slice (some ⟨bl, ol, none⟩) m ca) := HXk.out.cell rfl
        have c9 : wr.cell? ⟨bl, ol + i, none⟩ = some (.slice ua n uc) := (HBk.out.cell (p := ⟨bl, ol + i, none⟩) HBL.out).trans HC0.out
        by_cases hkn : k < n
        · have t5 : (k : Int) < (n : Int) := by omega
          have t6 : 0 ≤ (k : Int) := by omega
          have hkl : k < l.length := by rw [HLN.out]; exact hkn
          obtain ⟨bf, of, capf, ef, hbf, _, hcf⟩ := fils_at HU.out (by omega)
          obtain ⟨vl, vm, hvl, hvm, hwf, hc6⟩ := hcf k hkl
          injection ef with e1 e2 e3
          subst e1 e3
          clear e2 hcf
          have HFN := Lib.hid (HFI.out _ (fat_mem hkl))
          have HLT := Lib.hid (levTo_succ (i := i) hkl)
          obtain ⟨f, hf⟩ : ∃ f, fat l k = f := ⟨_, rfl⟩
          rw [hf] at hvl hvm hwf hc6 HFN HLT
          obtain ⟨la, lc, rfl⟩ := hvl.isSlice
          obtain ⟨ma, mc, rfl⟩ := hvm.isSlice
          have HWFf := Lib.hid hwf
          have hc6 := hc6.keep HBk.out hbf
          obtain ⟨c0, c1, c2, c3, c4, c5⟩ := hc6
          obtain ⟨e, he⟩ : ∃ e, d + levTo i l k = e := ⟨_, rfl⟩
          have HEE := Lib.hid he
          have hel : e ≤ 200000000 := by
            have h1 := HTL.out k (by rw [HLN.out]; omega)
            omega
          rw [he]
          clear hvl hvm hwf hf hkl he hbf
          go_upto_region 10 with fail
          clear c0 c1 c2 c3 c4 c5 x0 c9
          refine wp_gen fun w3 hw3 => ?_
          have HE3 : Hid (Blk w3 wr.heap.size (filCells f (.slice la f.least.length lc) (.slice ma f.most.length mc)).toArray 42) := by rw [hw3]; exact Blk.at_new rfl rfl
          have HW3 : Hid (Below wr.heap.size wr w3) := by rw [hw3]; exact (Below.refl _ _).alloc (Nat.le_refl _) _
          clear hw3
          have HX3 := Lib.hid (HXk.out.below HW3.out HXk.out.lt)
          have HB3 : Hid (Below w.heap.size w w3) := HBk.out.trans (HW3.out.mono HBk.out.size)
          clear HXk HBk HW3
          generalize wr.heap.size = fb at *
          have hin := fileNums_in (i := i) (by omega) HWFf.out HFN.out
          have HIN := Lib.hid hin
          have hkl1 := (keyOk_len HFN.out.least).2
          have hkl2 := (keyOk_len HFN.out.most).2
          have hi0 : u64In (i : Int) := hin _ (by simp [fileNums])
          have hi1 : u64In f.num := hin _ (by simp [fileNums])
          have hi2 : u64In f.size := hin _ (by simp [fileNums])
          have hi3 : u64In f.ents := hin _ (by simp [fileNums])
          have hi4 : u64In f.mseq := hin _ (by simp [fileNums])
          have hi5 : u64In (f.least.length : Int) := hin _ (by simp [fileNums])
          have hi6 : u64In (f.most.length : Int) := hin _ (by simp [fileNums])
          have e0 : IntKind.u64.wrap (i : Int) = (i : Int) := wrapU hi0
          have e1 : IntKind.u64.wrap f.size = f.size := wrapU hi2
          have e2 : IntKind.u64.wrap f.ents = f.ents := wrapU hi3
          have e3 : IntKind.u64.wrap (f.least.length : Int) = (f.least.length : Int) := wrapU hi5
          have e4 : IntKind.u64.wrap (f.most.length : Int) = (f.most.length : Int) := wrapU hi6
          obtain ⟨z0, hz0⟩ : ∃ z, sizeN ((i : Int)).toNat = z := ⟨_, rfl⟩
          have HC0 := Lib.hid (fun w => rsize_at (i : Int) hi0 hz0 w)
          have b0 : z0 ≤ 10 := by rw [← hz0]; exact size_bd hi0
          obtain ⟨z1, hz1⟩ : ∃ z, sizeN (f.num).toNat = z := ⟨_, rfl⟩
          have HC1 := Lib.hid (fun w => rsize_at f.num hi1 hz1 w)
          have b1 : z1 ≤ 10 := by rw [← hz1]; exact size_bd hi1
          obtain ⟨z2, hz2⟩ : ∃ z, sizeN (f.size).toNat = z := ⟨_, rfl⟩
          have HC2 := Lib.hid (fun w => rsize_at f.size hi2 hz2 w)
          have b2 : z2 ≤ 10 := by rw [← hz2]; exact size_bd hi2
          obtain ⟨z3, hz3⟩ : ∃ z, sizeN (f.ents).toNat = z := ⟨_, rfl⟩
          have HC3 := Lib.hid (fun w => rsize_at f.ents hi3 hz3 w)
          have b3 : z3 ≤ 10 := by rw [← hz3]; exact size_bd hi3
          obtain ⟨z4, hz4⟩ : ∃ z, sizeN (f.mseq).toNat = z := ⟨_, rfl⟩
          have HC4 := Lib.hid (fun w => rsize_at f.mseq hi4 hz4 w)
          have b4 : z4 ≤ 10 := by rw [← hz4]; exact size_bd hi4
          obtain ⟨z5, hz5⟩ : ∃ z, sizeN ((f.least.length : Int)).toNat = z := ⟨_, rfl⟩
          have HC5 := Lib.hid (fun w => rsize_at (f.least.length : Int) hi5 hz5 w)
          have b5 : z5 ≤ 10 := by rw [← hz5]; exact size_bd hi5
          obtain ⟨z6, hz6⟩ : ∃ z, sizeN ((f.most.length : Int)).toNat = z := ⟨_, rfl⟩
          have HC6 := Lib.hid (fun w => rsize_at (f.most.length : Int) hi6 hz6 w)
          have b6 : z6 ≤ 10 := by rw [← hz6]; exact size_bd hi6
          have HZ : Hid (filLen i f = z0 + z1 + z2 + z3 + z4 + z5 + z6 + (f.least.length + f.most.length)) := by
            show _ = _
            rw [← hz0, ← hz1, ← hz2, ← hz3, ← hz4, ← hz5, ← hz6]
            show sizes [(i : Int), f.num, f.size, f.ents, f.mseq, (f.least.length : Int), (f.most.length : Int)] + _ = _
            rw [sizes_seven]
          clear hz0 hz1 hz2 hz3 hz4 hz5 hz6 hi0 hi1 hi2 hi3 hi4 hi5 hi6 hin
          have s0 : IntKind.i64.wrap ((e : Int) + (z0 : Int)) = (e : Int) + (z0 : Int) := wrap_small (by omega) (by omega)
          have s1 : IntKind.i64.wrap ((e : Int) + (z0 : Int) + (z1 : Int)) = (e : Int) + (z0 : Int) + (z1 : Int) := wrap_small (by omega) (by omega)
          have s2 : IntKind.i64.wrap ((e : Int) + (z0 : Int) + (z1 : Int) + (z2 : Int)) = (e : Int) + (z0 : Int) + (z1 : Int) + (z2 : Int) := wrap_small (by omega) (by omega)
          have s3 : IntKind.i64.wrap ((e : Int) + (z0 : Int) + (z1 : Int) + (z2 : Int) + (z3 : Int)) = (e : Int) + (z0 : Int) + (z1 : Int) + (z2 : Int) + (z3 : Int) := wrap_small (by omega) (by omega)
          have s4 : IntKind.i64.wrap ((e : Int) + (z0 : Int) + (z1 : Int) + (z2 : Int) + (z3 : Int) + (z4 : Int)) = (e : Int) + (z0 : Int) + (z1 : Int) + (z2 : Int) + (z3 : Int) + (z4 : Int) := wrap_small (by omega) (by omega)
          have s5 : IntKind.i64.wrap ((e : Int) + (z0 : Int) + (z1 : Int) + (z2 : Int) + (z3 : Int) + (z4 : Int) + (z5 : Int)) = (e : Int) + (z0 : Int) + (z1 : Int) + (z2 : Int) + (z3 : Int) + (z4 : Int) + (z5 : Int) := wrap_small (by omega) (by omega)
          have s6 : IntKind.i64.wrap ((e : Int) + (z0 : Int) + (z1 : Int) + (z2 : Int) + (z3 : Int) + (z4 : Int) + (z5 : Int) + (f.least.length : Int)) = (e : Int) + (z0 : Int) + (z1 : Int) + (z2 : Int) + (z3 : Int) + (z4 : Int) + (z5 : Int) + (f.least.length : Int) := wrap_small (by omega) (by omega)
          have s7 : IntKind.i64.wrap ((e : Int) + (z0 : Int) + (z1 : Int) + (z2 : Int) + (z3 : Int) + (z4 : Int) + (z5 : Int) + (f.least.length : Int) + (z6 : Int)) = (e : Int) + (z0 : Int) + (z1 : Int) + (z2 : Int) + (z3 : Int) + (z4 : Int) + (z5 : Int) + (f.least.length : Int) + (z6 : Int) := wrap_small (by omega) (by omega)
          have s8 : IntKind.i64.wrap ((e : Int) + (z0 : Int) + (z1 : Int) + (z2 : Int) + (z3 : Int) + (z4 : Int) + (z5 : Int) + (f.least.length : Int) + (z6 : Int) + (f.most.length : Int)) = (e : Int) + (z0 : Int) + (z1 : Int) + (z2 : Int) + (z3 : Int) + (z4 : Int) + (z5 : Int) + (f.least.length : Int) + (z6 : Int) + (f.most.length : Int) := wrap_small (by omega) (by omega)
          have HKP : Hid (∀ W, Below w3.heap.size w3 W → (W.cell? ⟨fb, 0, none⟩ = some (.int .u64 f.num) ∧ W.cell? ⟨fb, 1, none⟩ = some (.int .i64 f.size) ∧ W.cell? ⟨fb, 2, none⟩ = some (.slice la f.least.length lc) ∧ W.cell? ⟨fb, 3, none⟩ = some (.slice ma f.most.length mc) ∧ W.cell? ⟨fb, 4, none⟩ = some (.int .i64 f.ents) ∧ W.cell? ⟨fb, 5, none⟩ = some (.int .u64 f.mseq))) := fun W hb => C6.blk (HE3.out.below hb HE3.out.lt)
          have HBW0 : Hid (Below w3.heap.size w3 w3.drew) := below_drew (Below.refl _ _)
          refine wp_region_held_drew (S := fun w' => (w'.cell? ⟨fb, 0, none⟩ = some (.int .u64 f.num) ∧ w'.cell? ⟨fb, 1, none⟩ = some (.int .i64 f.size) ∧ w'.cell? ⟨fb, 2, none⟩ = some (.slice la f.least.length lc) ∧ w'.cell? ⟨fb, 3, none⟩ = some (.slice ma f.most.length mc) ∧ w'.cell? ⟨fb, 4, none⟩ = some (.int .i64 f.ents) ∧ w'.cell? ⟨fb, 5, none⟩ = some (.int .u64 f.mseq))) (by kernel_rfl) (HKP.out _ HBW0.out) (fun hHeld => ?_)
          refine wpAnyH_take (i := 0) (oi := ?oR_1_0) (v := ?vR_1_0) ?eR_1_0 (by kernel_rfl) (by kernel_rfl) (by kernel_rfl) ?qR_1_0 (Or.inl ⟨?wR_1_0, ?yR_1_0⟩) (by assumption) ?rR_1_0
          case eR_1_0 => simp only [List.getElem?_toArray, List.getElem?_cons_zero]; rfl
          case wR_1_0 => rfl
          case qR_1_0 => exact fun _ _ _ h => h
          case yR_1_0 => (intro w hSw; (try dsimp only at hSw); go_simp; try with_reducible rfl)
          try simp only [Act.put, List.setIfInBounds_toArray, List.set_cons_zero, List.set_cons_succ]
          refine wpAnyH_take (i := 1) (oi := ?oR_2_1) (v := ?vR_2_1) ?eR_2_1 (by kernel_rfl) (by kernel_rfl) (by kernel_rfl) ?qR_2_1 (Or.inl ⟨?wR_2_1, ?yR_2_1⟩) (by assumption) ?rR_2_1
          case eR_2_1 => simp only [List.getElem?_toArray, List.getElem?_cons_succ, List.getElem?_cons_zero]; rfl
          case wR_2_1 => rfl
          case qR_2_1 => exact fun _ _ _ h => h
          case yR_2_1 => (intro w hSw; (try dsimp only at hSw); go_simp; try with_reducible rfl)
          try simp only [Act.put, List.setIfInBounds_toArray, List.set_cons_zero, List.set_cons_succ]
          refine wpAnyH_take (i := 2) (oi := ?oR_3_2) (v := ?vR_3_2) ?eR_3_2 (by kernel_rfl) (by kernel_rfl) (by kernel_rfl) ?qR_3_2 (Or.inl ⟨?wR_3_2, ?yR_3_2⟩) (by assumption) ?rR_3_2
          case eR_3_2 => simp only [List.getElem?_toArray, List.getElem?_cons_succ, List.getElem?_cons_zero]; rfl
          case wR_3_2 => rfl
          case qR_3_2 => exact fun _ _ _ h => h
          case yR_3_2 => (intro w hSw; (try dsimp only at hSw); go_simp; try with_reducible rfl)
          try simp only [Act.put, List.setIfInBounds_toArray, List.set_cons_zero, List.set_cons_succ]
          refine wpAnyH_take (i := 5) (oi := ?oR_4_5) (v := ?vR_4_5) ?eR_4_5 (by kernel_rfl) (by kernel_rfl) (by kernel_rfl) ?qR_4_5 (Or.inl ⟨?wR_4_5, ?yR_4_5⟩) (by assumption) ?rR_4_5
          case eR_4_5 => simp only [List.getElem?_toArray, List.getElem?_cons_succ, List.getElem?_cons_zero]; rfl
          case wR_4_5 => rfl
          case qR_4_5 => exact fun _ _ _ h => h
          case yR_4_5 => (intro w hSw; (try dsimp only at hSw); go_simp; try with_reducible rfl)
          try simp only [Act.put, List.setIfInBounds_toArray, List.set_cons_zero, List.set_cons_succ]
          refine wpAnyH_take (i := 6) (oi := ?oR_5_6) (v := ?vR_5_6) ?eR_5_6 (by kernel_rfl) (by kernel_rfl) (by kernel_rfl) ?qR_5_6 (Or.inl ⟨?wR_5_6, ?yR_5_6⟩) (by assumption) ?rR_5_6
          case eR_5_6 => simp only [List.getElem?_toArray, List.getElem?_cons_succ, List.getElem?_cons_zero]; rfl
          case wR_5_6 => rfl
          case qR_5_6 => exact fun _ _ _ h => h
          case yR_5_6 => (intro w hSw; (try dsimp only at hSw); go_simp; try with_reducible rfl)
          try simp only [Act.put, List.setIfInBounds_toArray, List.set_cons_zero, List.set_cons_succ]
          refine wpAnyH_take (i := 9) (oi := ?oR_6_9) (v := ?vR_6_9) ?eR_6_9 (by kernel_rfl) (by kernel_rfl) (by kernel_rfl) ?qR_6_9 (Or.inl ⟨?wR_6_9, ?yR_6_9⟩) (by assumption) ?rR_6_9
          case eR_6_9 => simp only [List.getElem?_toArray, List.getElem?_cons_succ, List.getElem?_cons_zero]; rfl
          case wR_6_9 => rfl
          case qR_6_9 => exact fun _ _ _ h => h
          case yR_6_9 => (intro w hSw; (try dsimp only at hSw); go_simp; try with_reducible rfl)
          try simp only [Act.put, List.setIfInBounds_toArray, List.set_cons_zero, List.set_cons_succ]
          refine wpAnyH_take (i := 10) (oi := ?oR_7_10) (v := ?vR_7_10) ?eR_7_10 (by kernel_rfl) (by kernel_rfl) (by kernel_rfl) ?qR_7_10 (Or.inl ⟨?wR_7_10, ?yR_7_10⟩) (by assumption) ?rR_7_10
          case eR_7_10 => simp only [List.getElem?_toArray, List.getElem?_cons_succ, List.getElem?_cons_zero]; rfl
          case wR_7_10 => rfl
          case qR_7_10 => exact fun _ _ _ h => h
          case yR_7_10 => (intro w hSw; (try dsimp only at hSw); go_simp; try with_reducible rfl)
          try simp only [Act.put, List.setIfInBounds_toArray, List.set_cons_zero, List.set_cons_succ]
          refine wpAnyH_take (i := 11) (oi := ?oR_8_11) (v := ?vR_8_11) ?eR_8_11 (by kernel_rfl) (by kernel_rfl) (by kernel_rfl) ?qR_8_11 (Or.inl ⟨?wR_8_11, ?yR_8_11⟩) (by assumption) ?rR_8_11
          case eR_8_11 => simp only [List.getElem?_toArray, List.getElem?_cons_succ, List.getElem?_cons_zero]; rfl
          case wR_8_11 => rfl
          case qR_8_11 => exact fun _ _ _ h => h
          case yR_8_11 => (intro w hSw; (try dsimp only at hSw); go_simp; try with_reducible rfl)
          try simp only [Act.put, List.setIfInBounds_toArray, List.set_cons_zero, List.set_cons_succ]
          refine wpAnyH_take (i := 14) (oi := ?oR_9_14) (v := ?vR_9_14) ?eR_9_14 (by kernel_rfl) (by kernel_rfl) (by kernel_rfl) ?qR_9_14 (Or.inl ⟨?wR_9_14, ?yR_9_14⟩) (by assumption) ?rR_9_14
          case eR_9_14 => simp only [List.getElem?_toArray, List.getElem?_cons_succ, List.getElem?_cons_zero]; rfl
          case wR_9_14 => rfl
          case qR_9_14 => exact fun _ _ _ h => h
          case yR_9_14 => (intro w hSw; (try dsimp only at hSw); go_simp; try with_reducible rfl)
          try simp only [Act.put, List.setIfInBounds_toArray, List.set_cons_zero, List.set_cons_succ]
          refine wpAnyH_take (i := 15) (oi := ?oR_10_15) (v := ?vR_10_15) ?eR_10_15 (by kernel_rfl) (by kernel_rfl) (by kernel_rfl) ?qR_10_15 (Or.inl ⟨?wR_10_15, ?yR_10_15⟩) (by assumption) ?rR_10_15
          case eR_10_15 => simp only [List.getElem?_toArray, List.getElem?_cons_succ, List.getElem?_cons_zero]; rfl
          case wR_10_15 => rfl
          case qR_10_15 => exact fun _ _ _ h => h
          case yR_10_15 => (intro w hSw; (try dsimp only at hSw); go_simp; try with_reducible rfl)
          try simp only [Act.put, List.setIfInBounds_toArray, List.set_cons_zero, List.set_cons_succ]
          refine wpAnyH_take (i := 16) (oi := ?oR_11_16) (v := ?vR_11_16) ?eR_11_16 (by kernel_rfl) (by kernel_rfl) (by kernel_rfl) ?qR_11_16 (Or.inl ⟨?wR_11_16, ?yR_11_16⟩) (by assumption) ?rR_11_16
          case eR_11_16 => simp only [List.getElem?_toArray, List.getElem?_cons_succ, List.getElem?_cons_zero]; rfl
          case wR_11_16 => rfl
          case qR_11_16 => exact fun _ _ _ h => h
          case yR_11_16 => (intro w hSw; (try dsimp only at hSw); go_simp; try with_reducible rfl)
          try simp only [Act.put, List.setIfInBounds_toArray, List.set_cons_zero, List.set_cons_succ]
          refine wpAnyH_take (i := 19) (oi := ?oR_12_19) (v := ?vR_12_19) ?eR_12_19 (by kernel_rfl) (by kernel_rfl) (by kernel_rfl) ?qR_12_19 (Or.inl ⟨?wR_12_19, ?yR_12_19⟩) (by assumption) ?rR_12_19
          case eR_12_19 => simp only [List.getElem?_toArray, List.getElem?_cons_succ, List.getElem?_cons_zero]; rfl
          case wR_12_19 => rfl
          case qR_12_19 => exact fun _ _ _ h => h
          case yR_12_19 => (intro w hSw; (try dsimp only at hSw); go_simp; try with_reducible rfl)
          try simp only [Act.put, List.setIfInBounds_toArray, List.set_cons_zero, List.set_cons_succ]
          refine wpAnyH_take (i := 20) (oi := ?oR_13_20) (v := ?vR_13_20) ?eR_13_20 (by kernel_rfl) (by kernel_rfl) (by kernel_rfl) ?qR_13_20 (Or.inl ⟨?wR_13_20, ?yR_13_20⟩) (by assumption) ?rR_13_20
          case eR_13_20 => simp only [List.getElem?_toArray, List.getElem?_cons_succ, List.getElem?_cons_zero]; rfl
          case wR_13_20 => rfl
          case qR_13_20 => exact fun _ _ _ h => h
          case yR_13_20 => (intro w hSw; (try dsimp only at hSw); go_simp; try with_reducible rfl)
          try simp only [Act.put, List.setIfInBounds_toArray, List.set_cons_zero, List.set_cons_succ]
          refine wpAnyH_take (i := 23) (oi := ?oR_14_23) (v := ?vR_14_23) ?eR_14_23 (by kernel_rfl) (by kernel_rfl) (by kernel_rfl) ?qR_14_23 (Or.inl ⟨?wR_14_23, ?yR_14_23⟩) (by assumption) ?rR_14_23
          case eR_14_23 => simp only [List.getElem?_toArray, List.getElem?_cons_succ, List.getElem?_cons_zero]; rfl
          case wR_14_23 => rfl
          case qR_14_23 => exact fun _ _ _ h => h
          case yR_14_23 => (intro w hSw; (try dsimp only at hSw); go_simp; try with_reducible rfl)
          try simp only [Act.put, List.setIfInBounds_toArray, List.set_cons_zero, List.set_cons_succ]
          refine wpAnyH_take (i := 24) (oi := ?oR_15_24) (v := ?vR_15_24) ?eR_15_24 (by kernel_rfl) (by kernel_rfl) (by kernel_rfl) ?qR_15_24 (Or.inl ⟨?wR_15_24, ?yR_15_24⟩) (by assumption) ?rR_15_24
          case eR_15_24 => simp only [List.getElem?_toArray, List.getElem?_cons_succ, List.getElem?_cons_zero]; rfl
          case wR_15_24 => rfl
          case qR_15_24 => exact fun _ _ _ h => h
          case yR_15_24 => (intro w hSw; (try dsimp only at hSw); go_simp; try with_reducible rfl)
          try simp only [Act.put, List.setIfInBounds_toArray, List.set_cons_zero, List.set_cons_succ]
          refine wpAnyH_take (i := 25) (oi := ?oR_16_25) (v := ?vR_16_25) ?eR_16_25 (by kernel_rfl) (by kernel_rfl) (by kernel_rfl) ?qR_16_25 (Or.inl ⟨?wR_16_25, ?yR_16_25⟩) (by assumption) ?rR_16_25
          case eR_16_25 => simp only [List.getElem?_toArray, List.getElem?_cons_succ, List.getElem?_cons_zero]; rfl
          case wR_16_25 => rfl
          case qR_16_25 => exact fun _ _ _ h => h
          case yR_16_25 => (intro w hSw; (try dsimp only at hSw); go_simp; try with_reducible rfl)
          try simp only [Act.put, List.setIfInBounds_toArray, List.set_cons_zero, List.set_cons_succ]
          refine wpAnyH_take (i := 26) (oi := ?oR_17_26) (v := ?vR_17_26) ?eR_17_26 (by kernel_rfl) (by kernel_rfl) (by kernel_rfl) ?qR_17_26 (Or.inl ⟨?wR_17_26, ?yR_17_26⟩) (by assumption) ?rR_17_26
          case eR_17_26 => simp only [List.getElem?_toArray, List.getElem?_cons_succ, List.getElem?_cons_zero]; rfl
          case wR_17_26 => rfl
          case qR_17_26 => exact fun _ _ _ h => h
          case yR_17_26 => (intro w hSw; (try dsimp only at hSw); go_simp; try with_reducible rfl)
          try simp only [Act.put, List.setIfInBounds_toArray, List.set_cons_zero, List.set_cons_succ]
          refine wpAnyH_take (i := 29) (oi := ?oR_18_29) (v := ?vR_18_29) ?eR_18_29 (by kernel_rfl) (by kernel_rfl) (by kernel_rfl) ?qR_18_29 (Or.inl ⟨?wR_18_29, ?yR_18_29⟩) (by assumption) ?rR_18_29
          case eR_18_29 => simp only [List.getElem?_toArray, List.getElem?_cons_succ, List.getElem?_cons_zero]; rfl
          case wR_18_29 => rfl
          case qR_18_29 => exact fun _ _ _ h => h
          case yR_18_29 => (intro w hSw; (try dsimp only at hSw); go_simp; try with_reducible rfl)
          try simp only [Act.put, List.setIfInBounds_toArray, List.set_cons_zero, List.set_cons_succ]
          refine wpAnyH_take (i := 30) (oi := ?oR_19_30) (v := ?vR_19_30) ?eR_19_30 (by kernel_rfl) (by kernel_rfl) (by kernel_rfl) ?qR_19_30 (Or.inl ⟨?wR_19_30, ?yR_19_30⟩) (by assumption) ?rR_19_30
          case eR_19_30 => simp only [List.getElem?_toArray, List.getElem?_cons_succ, List.getElem?_cons_zero]; rfl
          case wR_19_30 => rfl
          case qR_19_30 => exact fun _ _ _ h => h
          case yR_19_30 => (intro w hSw; (try dsimp only at hSw); go_simp; try with_reducible rfl)
          try simp only [Act.put, List.setIfInBounds_toArray, List.set_cons_zero, List.set_cons_succ]
          refine wpAnyH_take (i := 31) (oi := ?oR_20_31) (v := ?vR_20_31) ?eR_20_31 (by kernel_rfl) (by kernel_rfl) (by kernel_rfl) ?qR_20_31 (Or.inl ⟨?wR_20_31, ?yR_20_31⟩) (by assumption) ?rR_20_31
          case eR_20_31 => simp only [List.getElem?_toArray, List.getElem?_cons_succ, List.getElem?_cons_zero]; rfl
          case wR_20_31 => rfl
          case qR_20_31 => exact fun _ _ _ h => h
          case yR_20_31 => (intro w hSw; (try dsimp only at hSw); go_simp; try with_reducible rfl)
          try simp only [Act.put, List.setIfInBounds_toArray, List.set_cons_zero, List.set_cons_succ]
          refine wpAnyH_take (i := 33) (oi := ?oR_21_33) (v := ?vR_21_33) ?eR_21_33 (by kernel_rfl) (by kernel_rfl) (by kernel_rfl) ?qR_21_33 (Or.inl ⟨?wR_21_33, ?yR_21_33⟩) (by assumption) ?rR_21_33
          case eR_21_33 => simp only [List.getElem?_toArray, List.getElem?_cons_succ, List.getElem?_cons_zero]; rfl
          case wR_21_33 => rfl
          case qR_21_33 => exact fun _ _ _ h => h
          case yR_21_33 => (intro w hSw; (try dsimp only at hSw); go_simp; try with_reducible rfl)
          try simp only [Act.put, List.setIfInBounds_toArray, List.set_cons_zero, List.set_cons_succ]
          refine wpAnyH_take (i := 34) (oi := ?oR_22_34) (v := ?vR_22_34) ?eR_22_34 (by kernel_rfl) (by kernel_rfl) (by kernel_rfl) ?qR_22_34 (Or.inl ⟨?wR_22_34, ?yR_22_34⟩) (by assumption) ?rR_22_34
          case eR_22_34 => simp only [List.getElem?_toArray, List.getElem?_cons_succ, List.getElem?_cons_zero]; rfl
          case wR_22_34 => rfl
          case qR_22_34 => exact fun _ _ _ h => h
          case yR_22_34 => (intro w hSw; (try dsimp only at hSw); go_simp; try with_reducible rfl)
          try simp only [Act.put, List.setIfInBounds_toArray, List.set_cons_zero, List.set_cons_succ]
          refine wpAnyH_take (i := 35) (oi := ?oR_23_35) (v := ?vR_23_35) ?eR_23_35 (by kernel_rfl) (by kernel_rfl) (by kernel_rfl) ?qR_23_35 (Or.inl ⟨?wR_23_35, ?yR_23_35⟩) (by assumption) ?rR_23_35
          case eR_23_35 => simp only [List.getElem?_toArray, List.getElem?_cons_succ, List.getElem?_cons_zero]; rfl
          case wR_23_35 => rfl
          case qR_23_35 => exact fun _ _ _ h => h
          case yR_23_35 => (intro w hSw; (try dsimp only at hSw); go_simp; try with_reducible rfl)
          try simp only [Act.put, List.setIfInBounds_toArray, List.set_cons_zero, List.set_cons_succ]
          refine wpAnyH_take (i := 36) (oi := ?oR_24_36) (v := ?vR_24_36) ?eR_24_36 (by kernel_rfl) (by kernel_rfl) (by kernel_rfl) ?qR_24_36 (Or.inl ⟨?wR_24_36, ?yR_24_36⟩) (by assumption) ?rR_24_36
          case eR_24_36 => simp only [List.getElem?_toArray, List.getElem?_cons_succ, List.getElem?_cons_zero]; rfl
          case wR_24_36 => rfl
          case qR_24_36 => exact fun _ _ _ h => h
          case yR_24_36 => (intro w hSw; (try dsimp only at hSw); go_simp; try with_reducible rfl)
          try simp only [Act.put, List.setIfInBounds_toArray, List.set_cons_zero, List.set_cons_succ]
          refine wpAnyH_take (i := 39) (oi := ?oR_25_39) (v := ?vR_25_39) ?eR_25_39 (by kernel_rfl) (by kernel_rfl) (by kernel_rfl) ?qR_25_39 (Or.inl ⟨?wR_25_39, ?yR_25_39⟩) (by assumption) ?rR_25_39
          case eR_25_39 => simp only [List.getElem?_toArray, List.getElem?_cons_succ, List.getElem?_cons_zero]; rfl
          case wR_25_39 => rfl
          case qR_25_39 => exact fun _ _ _ h => h
          case yR_25_39 => (intro w hSw; (try dsimp only at hSw); go_simp; try with_reducible rfl)
          try simp only [Act.put, List.setIfInBounds_toArray, List.set_cons_zero, List.set_cons_succ]
          refine wpAnyH_take (i := 40) (oi := ?oR_26_40) (v := ?vR_26_40) ?eR_26_40 (by kernel_rfl) (by kernel_rfl) (by kernel_rfl) ?qR_26_40 (Or.inl ⟨?wR_26_40, ?yR_26_40⟩) (by assumption) ?rR_26_40
          case eR_26_40 => simp only [List.getElem?_toArray, List.getElem?_cons_succ, List.getElem?_cons_zero]; rfl
          case wR_26_40 => rfl
          case qR_26_40 => exact fun _ _ _ h => h
          case yR_26_40 => (intro w hSw; (try dsimp only at hSw); go_simp; try with_reducible rfl)
          try simp only [Act.put, List.setIfInBounds_toArray, List.set_cons_zero, List.set_cons_succ]
          refine wpAnyH_take (i := 41) (oi := ?oR_27_41) (v := ?vR_27_41) ?eR_27_41 (by kernel_rfl) (by kernel_rfl) (by kernel_rfl) ?qR_27_41 (Or.inl ⟨?wR_27_41, ?yR_27_41⟩) (by assumption) ?rR_27_41
          case eR_27_41 => simp only [List.getElem?_toArray, List.getElem?_cons_succ, List.getElem?_cons_zero]; rfl
          case wR_27_41 => rfl
          case qR_27_41 => exact fun _ _ _ h => h
          case yR_27_41 => (intro w hSw; (try dsimp only at hSw); go_simp; try with_reducible rfl)
          try simp only [Act.put, List.setIfInBounds_toArray, List.set_cons_zero, List.set_cons_succ]
          have hOld := hHeld
          clear hHeld
          refine wpAnyH_ready (rs := [3]) (by kernel_rfl) (by simp) ?_
          refine AllReadyH.cons (o := ?oR_28_3) ?eR_28_3 (fun K hK => ?_) AllReadyH.nil
          case eR_28_3 => simp only [List.getElem?_toArray, List.getElem?_cons_succ, List.getElem?_cons_zero]; rfl
          go_simp
          (go_at_call 101; refine Calls.mono (HC0.out _) ?_; rintro _ y0 ⟨rfl, hb0⟩; have HBW1 : Hid (Below w3.heap.size w3 y0) := HBW0.out.trans (hb0.mono HBW0.out.size))
          try go_wp2_with fail
          refine hK.out _ _ (HKP.out _ HBW1.out) (fun hHeld => ?_)
          clear hK hOld
          try simp only [Act.put, List.setIfInBounds_toArray, List.set_cons_zero, List.set_cons_succ]
          refine wpAnyH_take (i := 4) (oi := ?oR_29_4) (v := ?vR_29_4) ?eR_29_4 (by kernel_rfl) (by kernel_rfl) (by kernel_rfl) ?qR_29_4 (Or.inl ⟨?wR_29_4, ?yR_29_4⟩) (by assumption) ?rR_29_4
          case eR_29_4 => simp only [List.getElem?_toArray, List.getElem?_cons_succ, List.getElem?_cons_zero]; rfl
          case wR_29_4 => rfl
          case qR_29_4 => exact fun _ _ _ h => h
          case yR_29_4 => (intro w hSw; (try dsimp only at hSw); go_simp; try with_reducible rfl)
          try simp only [Act.put, List.setIfInBounds_toArray, List.set_cons_zero, List.set_cons_succ]
          have hOld := hHeld
          clear hHeld
          refine wpAnyH_ready (rs := [7]) (by kernel_rfl) (by simp) ?_
          refine AllReadyH.cons (o := ?oR_30_7) ?eR_30_7 (fun K hK => ?_) AllReadyH.nil
          case eR_30_7 => simp only [List.getElem?_toArray, List.getElem?_cons_succ, List.getElem?_cons_zero]; rfl
          go_simp
          (go_at_call 101; refine Calls.mono (HC1.out _) ?_; rintro _ y1 ⟨rfl, hb1⟩; have HBW2 : Hid (Below w3.heap.size w3 y1) := HBW1.out.trans (hb1.mono HBW1.out.size))
          try go_wp2_with fail
          refine hK.out _ _ (HKP.out _ HBW2.out) (fun hHeld => ?_)
          clear hK hOld
          try simp only [Act.put, List.setIfInBounds_toArray, List.set_cons_zero, List.set_cons_succ]
          refine wpAnyH_take (i := 8) (oi := ?oR_31_8) (v := ?vR_31_8) ?eR_31_8 (by kernel_rfl) (by kernel_rfl) (by kernel_rfl) ?qR_31_8 (Or.inl ⟨?wR_31_8, ?yR_31_8⟩) (by assumption) ?rR_31_8
          case eR_31_8 => simp only [List.getElem?_toArray, List.getElem?_cons_succ, List.getElem?_cons_zero]; rfl
          case wR_31_8 => rfl
          case qR_31_8 => exact fun _ _ _ h => h
          case yR_31_8 => (intro w hSw; (try dsimp only at hSw); go_simp; try with_reducible rfl)
          try simp only [Act.put, List.setIfInBounds_toArray, List.set_cons_zero, List.set_cons_succ]
          have hOld := hHeld
          clear hHeld
          refine wpAnyH_ready (rs := [12]) (by kernel_rfl) (by simp) ?_
          refine AllReadyH.cons (o := ?oR_32_12) ?eR_32_12 (fun K hK => ?_) AllReadyH.nil
          case eR_32_12 => simp only [List.getElem?_toArray, List.getElem?_cons_succ, List.getElem?_cons_zero]; rfl
          go_simp
          (go_at_call 101; refine Calls.mono (HC2.out _) ?_; rintro _ y2 ⟨rfl, hb2⟩; have HBW3 : Hid (Below w3.heap.size w3 y2) := HBW2.out.trans (hb2.mono HBW2.out.size))
          try go_wp2_with fail
          refine hK.out _ _ (HKP.out _ HBW3.out) (fun hHeld => ?_)
          clear hK hOld
          try simp only [Act.put, List.setIfInBounds_toArray, List.set_cons_zero, List.set_cons_succ]
          refine wpAnyH_take (i := 13) (oi := ?oR_33_13) (v := ?vR_33_13) ?eR_33_13 (by kernel_rfl) (by kernel_rfl) (by kernel_rfl) ?qR_33_13 (Or.inl ⟨?wR_33_13, ?yR_33_13⟩) (by assumption) ?rR_33_13
          case eR_33_13 => simp only [List.getElem?_toArray, List.getElem?_cons_succ, List.getElem?_cons_zero]; rfl
          case wR_33_13 => rfl
          case qR_33_13 => exact fun _ _ _ h => h
          case yR_33_13 => (intro w hSw; (try dsimp only at hSw); go_simp; try with_reducible rfl)
          try simp only [Act.put, List.setIfInBounds_toArray, List.set_cons_zero, List.set_cons_succ]
          have hOld := hHeld
          clear hHeld
          refine wpAnyH_ready (rs := [17]) (by kernel_rfl) (by simp) ?_
          refine AllReadyH.cons (o := ?oR_34_17) ?eR_34_17 (fun K hK => ?_) AllReadyH.nil
          case eR_34_17 => simp only [List.getElem?_toArray, List.getElem?_cons_succ, List.getElem?_cons_zero]; rfl
          go_simp
          (go_at_call 101; refine Calls.mono (HC3.out _) ?_; rintro _ y3 ⟨rfl, hb3⟩; have HBW4 : Hid (Below w3.heap.size w3 y3) := HBW3.out.trans (hb3.mono HBW3.out.size))
          try go_wp2_with fail
          refine hK.out _ _ (HKP.out _ HBW4.out) (fun hHeld => ?_)
          clear hK hOld
          try simp only [Act.put, List.setIfInBounds_toArray, List.set_cons_zero, List.set_cons_succ]
          refine wpAnyH_take (i := 18) (oi := ?oR_35_18) (v := ?vR_35_18) ?eR_35_18 (by kernel_rfl) (by kernel_rfl) (by kernel_rfl) ?qR_35_18 (Or.inl ⟨?wR_35_18, ?yR_35_18⟩) (by assumption) ?rR_35_18
          case eR_35_18 => simp only [List.getElem?_toArray, List.getElem?_cons_succ, List.getElem?_cons_zero]; rfl
          case wR_35_18 => rfl
          case qR_35_18 => exact fun _ _ _ h => h
          case yR_35_18 => (intro w hSw; (try dsimp only at hSw); go_simp; try with_reducible rfl)
          try simp only [Act.put, List.setIfInBounds_toArray, List.set_cons_zero, List.set_cons_succ]
          have hOld := hHeld
          clear hHeld
          refine wpAnyH_ready (rs := [21]) (by kernel_rfl) (by simp) ?_
          refine AllReadyH.cons (o := ?oR_36_21) ?eR_36_21 (fun K hK => ?_) AllReadyH.nil
          case eR_36_21 => simp only [List.getElem?_toArray, List.getElem?_cons_succ, List.getElem?_cons_zero]; rfl
          go_simp
          (go_at_call 101; refine Calls.mono (HC4.out _) ?_; rintro _ y4 ⟨rfl, hb4⟩; have HBW5 : Hid (Below w3.heap.size w3 y4) := HBW4.out.trans (hb4.mono HBW4.out.size))
          try go_wp2_with fail
          refine hK.out _ _ (HKP.out _ HBW5.out) (fun hHeld => ?_)
          clear hK hOld
          try simp only [Act.put, List.setIfInBounds_toArray, List.set_cons_zero, List.set_cons_succ]
          refine wpAnyH_take (i := 22) (oi := ?oR_37_22) (v := ?vR_37_22) ?eR_37_22 (by kernel_rfl) (by kernel_rfl) (by kernel_rfl) ?qR_37_22 (Or.inl ⟨?wR_37_22, ?yR_37_22⟩) (by assumption) ?rR_37_22
          case eR_37_22 => simp only [List.getElem?_toArray, List.getElem?_cons_succ, List.getElem?_cons_zero]; rfl
          case wR_37_22 => rfl
          case qR_37_22 => exact fun _ _ _ h => h
          case yR_37_22 => (intro w hSw; (try dsimp only at hSw); go_simp; try with_reducible rfl)
          try simp only [Act.put, List.setIfInBounds_toArray, List.set_cons_zero, List.set_cons_succ]
          have hOld := hHeld
          clear hHeld
          refine wpAnyH_ready (rs := [27]) (by kernel_rfl) (by simp) ?_
          refine AllReadyH.cons (o := ?oR_38_27) ?eR_38_27 (fun K hK => ?_) AllReadyH.nil
          case eR_38_27 => simp only [List.getElem?_toArray, List.getElem?_cons_succ, List.getElem?_cons_zero]; rfl
          go_simp
          (go_at_call 101; refine Calls.mono (HC5.out _) ?_; rintro _ y5 ⟨rfl, hb5⟩; have HBW6 : Hid (Below w3.heap.size w3 y5) := HBW5.out.trans (hb5.mono HBW5.out.size))
          try go_wp2_with fail
          refine hK.out _ _ (HKP.out _ HBW6.out) (fun hHeld => ?_)
          clear hK hOld
          try simp only [Act.put, List.setIfInBounds_toArray, List.set_cons_zero, List.set_cons_succ]
          refine wpAnyH_take (i := 28) (oi := ?oR_39_28) (v := ?vR_39_28) ?eR_39_28 (by kernel_rfl) (by kernel_rfl) (by kernel_rfl) ?qR_39_28 (Or.inl ⟨?wR_39_28, ?yR_39_28⟩) (by assumption) ?rR_39_28
          case eR_39_28 => simp only [List.getElem?_toArray, List.getElem?_cons_succ, List.getElem?_cons_zero]; rfl
          case wR_39_28 => rfl
          case qR_39_28 => exact fun _ _ _ h => h
          case yR_39_28 => (intro w hSw; (try dsimp only at hSw); go_simp; try with_reducible rfl)
          try simp only [Act.put, List.setIfInBounds_toArray, List.set_cons_zero, List.set_cons_succ]
          refine wpAnyH_take (i := 32) (oi := ?oR_40_32) (v := ?vR_40_32) ?eR_40_32 (by kernel_rfl) (by kernel_rfl) (by kernel_rfl) ?qR_40_32 (Or.inl ⟨?wR_40_32, ?yR_40_32⟩) (by assumption) ?rR_40_32
          case eR_40_32 => simp only [List.getElem?_toArray, List.getElem?_cons_succ, List.getElem?_cons_zero]; rfl
          case wR_40_32 => rfl
          case qR_40_32 => exact fun _ _ _ h => h
          case yR_40_32 => (intro w hSw; (try dsimp only at hSw); go_simp; try with_reducible rfl)
          try simp only [Act.put, List.setIfInBounds_toArray, List.set_cons_zero, List.set_cons_succ]
          have hOld := hHeld
          clear hHeld
          refine wpAnyH_ready (rs := [37]) (by kernel_rfl) (by simp) ?_
          refine AllReadyH.cons (o := ?oR_41_37) ?eR_41_37 (fun K hK => ?_) AllReadyH.nil
          case eR_41_37 => simp only [List.getElem?_toArray, List.getElem?_cons_succ, List.getElem?_cons_zero]; rfl
          go_simp
          (go_at_call 101; refine Calls.mono (HC6.out _) ?_; rintro _ y6 ⟨rfl, hb6⟩; have HBW7 : Hid (Below w3.heap.size w3 y6) := HBW6.out.trans (hb6.mono HBW6.out.size))
          try go_wp2_with fail
          refine hK.out _ _ (HKP.out _ HBW7.out) (fun hHeld => ?_)
          clear hK hOld
          try simp only [Act.put, List.setIfInBounds_toArray, List.set_cons_zero, List.set_cons_succ]
          refine wpAnyH_take (i := 38) (oi := ?oR_42_38) (v := ?vR_42_38) ?eR_42_38 (by kernel_rfl) (by kernel_rfl) (by kernel_rfl) ?qR_42_38 (Or.inl ⟨?wR_42_38, ?yR_42_38⟩) (by assumption) ?rR_42_38
          case eR_42_38 => simp only [List.getElem?_toArray, List.getElem?_cons_succ, List.getElem?_cons_zero]; rfl
          case wR_42_38 => rfl
          case qR_42_38 => exact fun _ _ _ h => h
          case yR_42_38 => (intro w hSw; (try dsimp only at hSw); go_simp; try with_reducible rfl)
          try simp only [Act.put, List.setIfInBounds_toArray, List.set_cons_zero, List.set_cons_succ]
          refine wpAnyH_take (i := 42) (oi := ?oR_43_42) (v := ?vR_43_42) ?eR_43_42 (by kernel_rfl) (by kernel_rfl) (by kernel_rfl) ?qR_43_42 (Or.inl ⟨?wR_43_42, ?yR_43_42⟩) (by assumption) ?rR_43_42
          case eR_43_42 => simp only [List.getElem?_toArray, List.getElem?_cons_succ, List.getElem?_cons_zero]; rfl
          case wR_43_42 => rfl
          case qR_43_42 => exact fun _ _ _ h => h
          case yR_43_42 => (intro w hSw; (try dsimp only at hSw); go_simp; try with_reducible rfl)
          try simp only [Act.put, List.setIfInBounds_toArray, List.set_cons_zero, List.set_cons_succ]
          refine wpAnyH_take (i := 43) (oi := ?oR_44_43) (v := ?vR_44_43) ?eR_44_43 (by kernel_rfl) (by kernel_rfl) (by kernel_rfl) ?qR_44_43 (Or.inl ⟨?wR_44_43, ?yR_44_43⟩) (by assumption) ?rR_44_43
          case eR_44_43 => simp only [List.getElem?_toArray, List.getElem?_cons_succ, List.getElem?_cons_zero]; rfl
          case wR_44_43 => rfl
          case qR_44_43 => exact fun _ _ _ h => h
          case yR_44_43 => (intro w hSw; (try dsimp only at hSw); go_simp; try with_reducible rfl)
          try simp only [Act.put, List.setIfInBounds_toArray, List.set_cons_zero, List.set_cons_succ]
          refine wpAnyH_done (by kernel_rfl) ?_ _
          have HB9 : Hid (Below w.heap.size w y6) := HB3.out.trans (HBW7.out.mono HB3.out.size)
          have HX9 := Lib.hid (HX3.out.below HBW7.out HX3.out.lt)
          have HSUM : Hid ((e : Int) + (z0 : Int) + (z1 : Int) + (z2 : Int) + (z3 : Int) + (z4 : Int) + (z5 : Int) + (f.least.length : Int) + (z6 : Int) + (f.most.length : Int) = ((d + levTo i l (k + 1) : Nat) : Int)) := by
            have h1 := HLT.out
            have h2 := HZ.out
            have h3 := HEE.out
            show _ = _
            omega
          clear s0 s1 s2 s3 s4 s5 s6 s7 s8 hHeld HKP e0 e1 e2 e3 e4
          go_wp2_with fail
          go_roundw
          · exact ⟨k + 1, by go_num, by omega, by go_num, int_eq HSUM.out, HX9.out, HB9.out⟩
          · simp only [intOf]; omega
        · have t5 : ¬ (k : Int) < (n : Int) := by omega
          have hkn2 : k = n := by omega
          have HSC : Hid (((c + k : Nat) : Int) = (cntTo v.levels (i + 1) : Int)) := by
            have h1 := HCN.out
            have h2 := HCC.out
            show _ = _
            omega
          have HSL : Hid (((d + levTo i l k : Nat) : Int) = (levsTo v.levels (i + 1) : Int)) := by
            have h1 := HLV.out
            have h2 := HDD.out
            rw [HLN.out, ← hkn2] at h1
            show _ = _
            omega
          rw [HSC.out, HSL.out]
          clear hkn2
          go_wp2_with fail
          go_roundw
          · exact ⟨i + 1, by go_num, by omega, rfl, rfl, HXk.out, HBk.out⟩
          · simp only [intOf]; omega
    · have t1 : ¬ (i : Int) < (m : Int) := by omega
      have him : i = m := by omega
      have HCE : Hid (cntTo v.levels i = cntTo v.levels v.levels.length) := by show _ = _; rw [HM.out, him]
      have HLE : Hid (levsTo v.levels i = levsTo v.levels v.levels.length) := by show _ = _; rw [HM.out, him]
      have hcl := HCT.out
      have hll := HLS.out v.levels.length (Nat.le_refl _)
      rw [HCE.out, HLE.out]
      obtain ⟨c, hc⟩ : ∃ c, cntTo v.levels v.levels.length = c := ⟨_, rfl⟩
      obtain ⟨d, hd⟩ : ∃ d, levsTo v.levels v.levels.length = d := ⟨_, rfl⟩
      have HV : Hid (lenV v = 1 + d + sizes [v.next, v.seq, v.log, (c : Int)]) := by show _ = _; unfold lenV; rw [hc, hd]
      rw [hc] at hcl hll
      rw [hd] at hll
      rw [hc, hd]
      have hdl : d ≤ 200000000 := by omega
      clear hc hd HCE HLE him
      go_upto_region 11 with fail
      clear x0
      have hi0 : u64In v.next := HWF.out.1
      have hi1 : u64In v.seq := HWF.out.2.1
      have hi2 : u64In v.log := HWF.out.2.2
      have hi3 : u64In (c : Int) := ⟨by omega, by omega⟩
      have e0 : IntKind.u64.wrap (c : Int) = (c : Int) := wrapU hi3
      obtain ⟨z0, hz0⟩ : ∃ z, sizeN (v.next).toNat = z := ⟨_, rfl⟩
      have HC0 := Lib.hid (fun w => rsize_at v.next hi0 hz0 w)
      have b0 : z0 ≤ 10 := by rw [← hz0]; exact size_bd hi0
      obtain ⟨z1, hz1⟩ : ∃ z, sizeN (v.seq).toNat = z := ⟨_, rfl⟩
      have HC1 := Lib.hid (fun w => rsize_at v.seq hi1 hz1 w)
      have b1 : z1 ≤ 10 := by rw [← hz1]; exact size_bd hi1
      obtain ⟨z2, hz2⟩ : ∃ z, sizeN (v.log).toNat = z := ⟨_, rfl⟩
      have HC2 := Lib.hid (fun w => rsize_at v.log hi2 hz2 w)
      have b2 : z2 ≤ 10 := by rw [← hz2]; exact size_bd hi2
      obtain ⟨z3, hz3⟩ : ∃ z, sizeN ((c : Int)).toNat = z := ⟨_, rfl⟩
      have HC3 := Lib.hid (fun w => rsize_at (c : Int) hi3 hz3 w)
      have b3 : z3 ≤ 10 := by rw [← hz3]; exact size_bd hi3
      have HZ : Hid (lenV v = 1 + d + (z0 + z1 + z2 + z3)) := by
        show _ = _
        rw [HV.out, sizes_four, hz0, hz1, hz2, hz3]
      clear hz0 hz1 hz2 hz3 hi0 hi1 hi2 hi3
      have s0 : IntKind.i64.wrap ((d : Int) + (z0 : Int)) = (d : Int) + (z0 : Int) := wrap_small (by omega) (by omega)
      have s1 : IntKind.i64.wrap ((d : Int) + (z0 : Int) + (z1 : Int)) = (d : Int) + (z0 : Int) + (z1 : Int) := wrap_small (by omega) (by omega)
      have s2 : IntKind.i64.wrap ((d : Int) + (z0 : Int) + (z1 : Int) + (z2 : Int)) = (d : Int) + (z0 : Int) + (z1 : Int) + (z2 : Int) := wrap_small (by omega) (by omega)
      have s3 : IntKind.i64.wrap ((d : Int) + (z0 : Int) + (z1 : Int) + (z2 : Int) + 1) = (d : Int) + (z0 : Int) + (z1 : Int) + (z2 : Int) + 1 := wrap_small (by omega) (by omega)
      have s4 : IntKind.i64.wrap ((d : Int) + (z0 : Int) + (z1 : Int) + (z2 : Int) + 1 + (z3 : Int)) = (d : Int) + (z0 : Int) + (z1 : Int) + (z2 : Int) + 1 + (z3 : Int) := wrap_small (by omega) (by omega)
      have HKP : Hid (∀ W, Below wr.heap.size wr W → (W.cell? ⟨xb, 1, none⟩ = some (.int .u64 v.next) ∧ W.cell? ⟨xb, 2, none⟩ = some (.int .u64 v.seq) ∧ W.cell? ⟨xb, 3, none⟩ = some (.int .u64 v.log))) := fun W hb => ⟨(HX.out.below hb HX.out.lt).cell rfl, (HX.out.below hb HX.out.lt).cell rfl, (HX.out.below hb HX.out.lt).cell rfl⟩
      have HBW0 : Hid (Below wr.heap.size wr wr.drew) := below_drew (Below.refl _ _)
      refine wp_region_held_drew (S := fun w' => (w'.cell? ⟨xb, 1, none⟩ = some (.int .u64 v.next) ∧ w'.cell? ⟨xb, 2, none⟩ = some (.int .u64 v.seq) ∧ w'.cell? ⟨xb, 3, none⟩ = some (.int .u64 v.log))) (by kernel_rfl) (HKP.out _ HBW0.out) (fun hHeld => ?_)
      refine wpAnyH_take (i := 0) (oi := ?oQ_45_0) (v := ?vQ_45_0) ?eQ_45_0 (by kernel_rfl) (by kernel_rfl) (by kernel_rfl) ?qQ_45_0 (Or.inl ⟨?wQ_45_0, ?yQ_45_0⟩) (by assumption) ?rQ_45_0
      case eQ_45_0 => simp only [List.getElem?_toArray, List.getElem?_cons_zero]; rfl
      case wQ_45_0 => rfl
      case qQ_45_0 => exact fun _ _ _ h => h
      case yQ_45_0 => (intro w hSw; (try dsimp only at hSw); go_simp; try with_reducible rfl)
      try simp only [Act.put, List.setIfInBounds_toArray, List.set_cons_zero, List.set_cons_succ]
      refine wpAnyH_take (i := 1) (oi := ?oQ_46_1) (v := ?vQ_46_1) ?eQ_46_1 (by kernel_rfl) (by kernel_rfl) (by kernel_rfl) ?qQ_46_1 (Or.inl ⟨?wQ_46_1, ?yQ_46_1⟩) (by assumption) ?rQ_46_1
      case eQ_46_1 => simp only [List.getElem?_toArray, List.getElem?_cons_succ, List.getElem?_cons_zero]; rfl
      case wQ_46_1 => rfl
      case qQ_46_1 => exact fun _ _ _ h => h
      case yQ_46_1 => (intro w hSw; (try dsimp only at hSw); go_simp; try with_reducible rfl)
      try simp only [Act.put, List.setIfInBounds_toArray, List.set_cons_zero, List.set_cons_succ]
      refine wpAnyH_take (i := 2) (oi := ?oQ_47_2) (v := ?vQ_47_2) ?eQ_47_2 (by kernel_rfl) (by kernel_rfl) (by kernel_rfl) ?qQ_47_2 (Or.inl ⟨?wQ_47_2, ?yQ_47_2⟩) (by assumption) ?rQ_47_2
      case eQ_47_2 => simp only [List.getElem?_toArray, List.getElem?_cons_succ, List.getElem?_cons_zero]; rfl
      case wQ_47_2 => rfl
      case qQ_47_2 => exact fun _ _ _ h => h
      case yQ_47_2 => (intro w hSw; (try dsimp only at hSw); go_simp; try with_reducible rfl)
      try simp only [Act.put, List.setIfInBounds_toArray, List.set_cons_zero, List.set_cons_succ]
      refine wpAnyH_take (i := 5) (oi := ?oQ_48_5) (v := ?vQ_48_5) ?eQ_48_5 (by kernel_rfl) (by kernel_rfl) (by kernel_rfl) ?qQ_48_5 (Or.inl ⟨?wQ_48_5, ?yQ_48_5⟩) (by assumption) ?rQ_48_5
      case eQ_48_5 => simp only [List.getElem?_toArray, List.getElem?_cons_succ, List.getElem?_cons_zero]; rfl
      case wQ_48_5 => rfl
      case qQ_48_5 => exact fun _ _ _ h => h
      case yQ_48_5 => (intro w hSw; (try dsimp only at hSw); go_simp; try with_reducible rfl)
      try simp only [Act.put, List.setIfInBounds_toArray, List.set_cons_zero, List.set_cons_succ]
      refine wpAnyH_take (i := 6) (oi := ?oQ_49_6) (v := ?vQ_49_6) ?eQ_49_6 (by kernel_rfl) (by kernel_rfl) (by kernel_rfl) ?qQ_49_6 (Or.inl ⟨?wQ_49_6, ?yQ_49_6⟩) (by assumption) ?rQ_49_6
      case eQ_49_6 => simp only [List.getElem?_toArray, List.getElem?_cons_succ, List.getElem?_cons_zero]; rfl
      case wQ_49_6 => rfl
      case qQ_49_6 => exact fun _ _ _ h => h
      case yQ_49_6 => (intro w hSw; (try dsimp only at hSw); go_simp; try with_reducible rfl)
      try simp only [Act.put, List.setIfInBounds_toArray, List.set_cons_zero, List.set_cons_succ]
      refine wpAnyH_take (i := 9) (oi := ?oQ_50_9) (v := ?vQ_50_9) ?eQ_50_9 (by kernel_rfl) (by kernel_rfl) (by kernel_rfl) ?qQ_50_9 (Or.inl ⟨?wQ_50_9, ?yQ_50_9⟩) (by assumption) ?rQ_50_9
      case eQ_50_9 => simp only [List.getElem?_toArray, List.getElem?_cons_succ, List.getElem?_cons_zero]; rfl
      case wQ_50_9 => rfl
      case qQ_50_9 => exact fun _ _ _ h => h
      case yQ_50_9 => (intro w hSw; (try dsimp only at hSw); go_simp; try with_reducible rfl)
      try simp only [Act.put, List.setIfInBounds_toArray, List.set_cons_zero, List.set_cons_succ]
      refine wpAnyH_take (i := 10) (oi := ?oQ_51_10) (v := ?vQ_51_10) ?eQ_51_10 (by kernel_rfl) (by kernel_rfl) (by kernel_rfl) ?qQ_51_10 (Or.inl ⟨?wQ_51_10, ?yQ_51_10⟩) (by assumption) ?rQ_51_10
      case eQ_51_10 => simp only [List.getElem?_toArray, List.getElem?_cons_succ, List.getElem?_cons_zero]; rfl
      case wQ_51_10 => rfl
      case qQ_51_10 => exact fun _ _ _ h => h
      case yQ_51_10 => (intro w hSw; (try dsimp only at hSw); go_simp; try with_reducible rfl)
      try simp only [Act.put, List.setIfInBounds_toArray, List.set_cons_zero, List.set_cons_succ]
      refine wpAnyH_take (i := 14) (oi := ?oQ_52_14) (v := ?vQ_52_14) ?eQ_52_14 (by kernel_rfl) (by kernel_rfl) (by kernel_rfl) ?qQ_52_14 (Or.inl ⟨?wQ_52_14, ?yQ_52_14⟩) (by assumption) ?rQ_52_14
      case eQ_52_14 => simp only [List.getElem?_toArray, List.getElem?_cons_succ, List.getElem?_cons_zero]; rfl
      case wQ_52_14 => rfl
      case qQ_52_14 => exact fun _ _ _ h => h
      case yQ_52_14 => (intro w hSw; (try dsimp only at hSw); go_simp; try with_reducible rfl)
      try simp only [Act.put, List.setIfInBounds_toArray, List.set_cons_zero, List.set_cons_succ]
      refine wpAnyH_take (i := 15) (oi := ?oQ_53_15) (v := ?vQ_53_15) ?eQ_53_15 (by kernel_rfl) (by kernel_rfl) (by kernel_rfl) ?qQ_53_15 (Or.inl ⟨?wQ_53_15, ?yQ_53_15⟩) (by assumption) ?rQ_53_15
      case eQ_53_15 => simp only [List.getElem?_toArray, List.getElem?_cons_succ, List.getElem?_cons_zero]; rfl
      case wQ_53_15 => rfl
      case qQ_53_15 => exact fun _ _ _ h => h
      case yQ_53_15 => (intro w hSw; (try dsimp only at hSw); go_simp; try with_reducible rfl)
      try simp only [Act.put, List.setIfInBounds_toArray, List.set_cons_zero, List.set_cons_succ]
      have hOld := hHeld
      clear hHeld
      refine wpAnyH_ready (rs := [3]) (by kernel_rfl) (by simp) ?_
      refine AllReadyH.cons (o := ?oQ_54_3) ?eQ_54_3 (fun K hK => ?_) AllReadyH.nil
      case eQ_54_3 => simp only [List.getElem?_toArray, List.getElem?_cons_succ, List.getElem?_cons_zero]; rfl
      go_simp
      (go_at_call 101; refine Calls.mono (HC0.out _) ?_; rintro _ y0 ⟨rfl, hb0⟩; have HBW1 : Hid (Below wr.heap.size wr y0) := HBW0.out.trans (hb0.mono HBW0.out.size))
      try go_wp2_with fail
      refine hK.out _ _ (HKP.out _ HBW1.out) (fun hHeld => ?_)
      clear hK hOld
      try simp only [Act.put, List.setIfInBounds_toArray, List.set_cons_zero, List.set_cons_succ]
      refine wpAnyH_take (i := 4) (oi := ?oQ_55_4) (v := ?vQ_55_4) ?eQ_55_4 (by kernel_rfl) (by kernel_rfl) (by kernel_rfl) ?qQ_55_4 (Or.inl ⟨?wQ_55_4, ?yQ_55_4⟩) (by assumption) ?rQ_55_4
      case eQ_55_4 => simp only [List.getElem?_toArray, List.getElem?_cons_succ, List.getElem?_cons_zero]; rfl
      case wQ_55_4 => rfl
      case qQ_55_4 => exact fun _ _ _ h => h
      case yQ_55_4 => (intro w hSw; (try dsimp only at hSw); go_simp; try with_reducible rfl)
      try simp only [Act.put, List.setIfInBounds_toArray, List.set_cons_zero, List.set_cons_succ]
      have hOld := hHeld
      clear hHeld
      refine wpAnyH_ready (rs := [7]) (by kernel_rfl) (by simp) ?_
      refine AllReadyH.cons (o := ?oQ_56_7) ?eQ_56_7 (fun K hK => ?_) AllReadyH.nil
      case eQ_56_7 => simp only [List.getElem?_toArray, List.getElem?_cons_succ, List.getElem?_cons_zero]; rfl
      go_simp
      (go_at_call 101; refine Calls.mono (HC1.out _) ?_; rintro _ y1 ⟨rfl, hb1⟩; have HBW2 : Hid (Below wr.heap.size wr y1) := HBW1.out.trans (hb1.mono HBW1.out.size))
      try go_wp2_with fail
      refine hK.out _ _ (HKP.out _ HBW2.out) (fun hHeld => ?_)
      clear hK hOld
      try simp only [Act.put, List.setIfInBounds_toArray, List.set_cons_zero, List.set_cons_succ]
      refine wpAnyH_take (i := 8) (oi := ?oQ_57_8) (v := ?vQ_57_8) ?eQ_57_8 (by kernel_rfl) (by kernel_rfl) (by kernel_rfl) ?qQ_57_8 (Or.inl ⟨?wQ_57_8, ?yQ_57_8⟩) (by assumption) ?rQ_57_8
      case eQ_57_8 => simp only [List.getElem?_toArray, List.getElem?_cons_succ, List.getElem?_cons_zero]; rfl
      case wQ_57_8 => rfl
      case qQ_57_8 => exact fun _ _ _ h => h
      case yQ_57_8 => (intro w hSw; (try dsimp only at hSw); go_simp; try with_reducible rfl)
      try simp only [Act.put, List.setIfInBounds_toArray, List.set_cons_zero, List.set_cons_succ]
      have hOld := hHeld
      clear hHeld
      refine wpAnyH_ready (rs := [11]) (by kernel_rfl) (by simp) ?_
      refine AllReadyH.cons (o := ?oQ_58_11) ?eQ_58_11 (fun K hK => ?_) AllReadyH.nil
      case eQ_58_11 => simp only [List.getElem?_toArray, List.getElem?_cons_succ, List.getElem?_cons_zero]; rfl
      go_simp
      (go_at_call 101; refine Calls.mono (HC2.out _) ?_; rintro _ y2 ⟨rfl, hb2⟩; have HBW3 : Hid (Below wr.heap.size wr y2) := HBW2.out.trans (hb2.mono HBW2.out.size))
      try go_wp2_with fail
      refine hK.out _ _ (HKP.out _ HBW3.out) (fun hHeld => ?_)
      clear hK hOld
      try simp only [Act.put, List.setIfInBounds_toArray, List.set_cons_zero, List.set_cons_succ]
      refine wpAnyH_take (i := 12) (oi := ?oQ_59_12) (v := ?vQ_59_12) ?eQ_59_12 (by kernel_rfl) (by kernel_rfl) (by kernel_rfl) ?qQ_59_12 (Or.inl ⟨?wQ_59_12, ?yQ_59_12⟩) (by assumption) ?rQ_59_12
      case eQ_59_12 => simp only [List.getElem?_toArray, List.getElem?_cons_succ, List.getElem?_cons_zero]; rfl
      case wQ_59_12 => rfl
      case qQ_59_12 => exact fun _ _ _ h => h
      case yQ_59_12 => (intro w hSw; (try dsimp only at hSw); go_simp; try with_reducible rfl)
      try simp only [Act.put, List.setIfInBounds_toArray, List.set_cons_zero, List.set_cons_succ]
      refine wpAnyH_take (i := 13) (oi := ?oQ_60_13) (v := ?vQ_60_13) ?eQ_60_13 (by kernel_rfl) (by kernel_rfl) (by kernel_rfl) ?qQ_60_13 (Or.inl ⟨?wQ_60_13, ?yQ_60_13⟩) (by assumption) ?rQ_60_13
      case eQ_60_13 => simp only [List.getElem?_toArray, List.getElem?_cons_succ, List.getElem?_cons_zero]; rfl
      case wQ_60_13 => rfl
      case qQ_60_13 => exact fun _ _ _ h => h
      case yQ_60_13 => (intro w hSw; (try dsimp only at hSw); go_simp; try with_reducible rfl)
      try simp only [Act.put, List.setIfInBounds_toArray, List.set_cons_zero, List.set_cons_succ]
      have hOld := hHeld
      clear hHeld
      refine wpAnyH_ready (rs := [16]) (by kernel_rfl) (by simp) ?_
      refine AllReadyH.cons (o := ?oQ_61_16) ?eQ_61_16 (fun K hK => ?_) AllReadyH.nil
      case eQ_61_16 => simp only [List.getElem?_toArray, List.getElem?_cons_succ, List.getElem?_cons_zero]; rfl
      go_simp
      (go_at_call 101; refine Calls.mono (HC3.out _) ?_; rintro _ y3 ⟨rfl, hb3⟩; have HBW4 : Hid (Below wr.heap.size wr y3) := HBW3.out.trans (hb3.mono HBW3.out.size))
      try go_wp2_with fail
      refine hK.out _ _ (HKP.out _ HBW4.out) (fun hHeld => ?_)
      clear hK hOld
      try simp only [Act.put, List.setIfInBounds_toArray, List.set_cons_zero, List.set_cons_succ]
      refine wpAnyH_take (i := 17) (oi := ?oQ_62_17) (v := ?vQ_62_17) ?eQ_62_17 (by kernel_rfl) (by kernel_rfl) (by kernel_rfl) ?qQ_62_17 (Or.inl ⟨?wQ_62_17, ?yQ_62_17⟩) (by assumption) ?rQ_62_17
      case eQ_62_17 => simp only [List.getElem?_toArray, List.getElem?_cons_succ, List.getElem?_cons_zero]; rfl
      case wQ_62_17 => rfl
      case qQ_62_17 => exact fun _ _ _ h => h
      case yQ_62_17 => (intro w hSw; (try dsimp only at hSw); go_simp; try with_reducible rfl)
      try simp only [Act.put, List.setIfInBounds_toArray, List.set_cons_zero, List.set_cons_succ]
      refine wpAnyH_take (i := 18) (oi := ?oQ_63_18) (v := ?vQ_63_18) ?eQ_63_18 (by kernel_rfl) (by kernel_rfl) (by kernel_rfl) ?qQ_63_18 (Or.inl ⟨?wQ_63_18, ?yQ_63_18⟩) (by assumption) ?rQ_63_18
      case eQ_63_18 => simp only [List.getElem?_toArray, List.getElem?_cons_succ, List.getElem?_cons_zero]; rfl
      case wQ_63_18 => rfl
      case qQ_63_18 => exact fun _ _ _ h => h
      case yQ_63_18 => (intro w hSw; (try dsimp only at hSw); go_simp; try with_reducible rfl)
      try simp only [Act.put, List.setIfInBounds_toArray, List.set_cons_zero, List.set_cons_succ]
      refine wpAnyH_done (by kernel_rfl) ?_ _
      have HB9 : Hid (Below w.heap.size w y3) := HB.out.trans (HBW4.out.mono HB.out.size)
      have HSUM : Hid ((d : Int) + (z0 : Int) + (z1 : Int) + (z2 : Int) + 1 + (z3 : Int) = (lenV v : Int)) := by
        have h1 := HZ.out
        show _ = _
        omega
      clear s0 s1 s2 s3 s4 hHeld HKP e0
      go_wp2_with fail
      go_ret
      exact ⟨ret_int HSUM.out, HB9.out⟩
end Go.Proofs.Ytkcohhldmhdcfaa
