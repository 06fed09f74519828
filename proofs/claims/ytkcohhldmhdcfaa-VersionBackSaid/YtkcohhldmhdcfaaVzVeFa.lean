/- Chapter 12: version.length. Chapter 12: version.Check. Chapter 12: laps; version.Bytes. -/
import Derived.Test.YtkcohhldmhdcfaaVzVeAa
namespace Go.Proofs.Ytkcohhldmhdcfaa
open Go.RowKit

def verCells (v : Ver) (lv : Value) : List Value := [lv, .int .u64 v.next, .int .u64 v.seq, .int .u64 v.log]
def Ver.wf (v : Ver) : Prop := u64In v.next ∧ u64In v.seq ∧ u64In v.log
/-- The bytes that a file of level i has in an edit. -/
def filLen (i : Nat) (f : Fil) : Nat := sizes [(i : Int), f.num, f.size, f.ents, f.mseq, (f.least.length : Int), (f.most.length : Int)] + (f.least.length + f.most.length)
def levTo (i : Nat) (l : List Fil) (k : Nat) : Nat := ((l.take k).map (filLen i)).sum
def levsTo (ls : List (List Fil)) : Nat → Nat
  | 0 => 0
  | i + 1 => levsTo ls i + levTo i (lat ls i) (lat ls i).length
def cntTo (ls : List (List Fil)) : Nat → Nat
  | 0 => 0
  | i + 1 => cntTo ls i + (lat ls i).length
def lenV (v : Ver) : Nat := 1 + levsTo v.levels v.levels.length + sizes [v.next, v.seq, v.log, (cntTo v.levels v.levels.length : Int)]
theorem levTo_succ {i : Nat} {l : List Fil} {k : Nat} (h : k < l.length) : levTo i l (k + 1) = levTo i l k + filLen i (fat l k) := by
  unfold levTo
  rw [List.take_succ_eq_append_getElem h, List.map_append, List.sum_append, fat_eq h]
  simp

theorem wrapU {x : Int} (h : u64In x) : IntKind.u64.wrap x = x := by
  unfold u64In at h
  simp [IntKind.wrap, IntKind.signed, IntKind.bits]
  omega
theorem Rw.fwf {F : Nat → Prop} {w : World} {v : Value} {fs : List Fil} (h : Rw filK F w v fs) : ∀ f ∈ fs, f.wf := by
  intro f hf
  obtain ⟨k, hk, rfl⟩ := List.mem_iff_getElem.1 hf
  obtain ⟨_, _, _, _, _, _, hc⟩ := fils_at h (by omega)
  obtain ⟨_, _, _, _, hw, _⟩ := hc k hk
  rw [fat_eq hk]; exact hw
theorem Rw.lwf {F : Nat → Prop} {w : World} {v : Value} {ls : List (List Fil)} (h : Rw (rowK filK) F w v ls) : ∀ i, i < ls.length → ∀ f ∈ lat ls i, f.wf := by
  intro i hi
  obtain ⟨_, _, _, _, _, _, hc⟩ := levs_at h (by omega)
  obtain ⟨_, hu, _⟩ := hc i hi
  exact hu.fwf
def fileNums (i : Nat) (f : Fil) : List Int := [(i : Int), f.num, f.size, f.ents, f.mseq, (f.least.length : Int), (f.most.length : Int)]
theorem keyOk_len {k : List UInt8} (h : keyOk k = true) : 1 ≤ k.length ∧ k.length ≤ 4096 := by simpa [keyOk] using h
theorem fileNums_in {i : Nat} {f : Fil} (hi : i ≤ 10) (hw : f.wf) (hf : f.Fine) : ∀ x ∈ fileNums i f, u64In x := by
  have h1 := keyOk_len hf.least
  have h2 := keyOk_len hf.most
  have h3 := hf.s0
  have h4 := hf.s1
  have h5 := hf.e0
  have h6 := hf.e1
  intro x hx
  simp only [fileNums, List.mem_cons, List.not_mem_nil, or_false] at hx
  rcases hx with rfl | rfl | rfl | rfl | rfl | rfl | rfl
  · constructor <;> omega
  · exact hw.1
  · constructor <;> omega
  · constructor <;> omega
  · exact hw.2.2.2
  · constructor <;> omega
  · constructor <;> omega
theorem sizes_le {xs : List Int} (h : ∀ x ∈ xs, u64In x) : sizes xs ≤ 10 * xs.length := sizesTo_le h _ (Nat.le_refl _)
theorem filLen_le {i : Nat} {f : Fil} (hi : i ≤ 10) (hw : f.wf) (hf : f.Fine) : filLen i f ≤ 10000 := by
  have h1 := keyOk_len hf.least
  have h2 := keyOk_len hf.most
  have h3 : sizes (fileNums i f) ≤ 70 := sizes_le (fileNums_in hi hw hf)
  have h4 : filLen i f = sizes (fileNums i f) + (f.least.length + f.most.length) := rfl
  omega
theorem levTo_le {i : Nat} {l : List Fil} (hi : i ≤ 10) (hw : ∀ f ∈ l, f.wf) (hf : ∀ f ∈ l, f.Fine) : ∀ k, k ≤ l.length → levTo i l k ≤ k * 10000
  | 0, _ => by simp [levTo]
  | k + 1, hk => by
    have h1 := levTo_le hi hw hf k (by omega)
    have h2 := filLen_le hi (hw _ (fat_mem (show k < l.length by omega))) (hf _ (fat_mem (show k < l.length by omega)))
    rw [levTo_succ (by omega)]
    omega
theorem levsTo_le {ls : List (List Fil)} (hm : ls.length ≤ 10) (hw : ∀ i, i < ls.length → ∀ f ∈ lat ls i, f.wf) (hf : ∀ i, i < ls.length → ∀ f ∈ lat ls i, f.Fine) : ∀ i, i ≤ ls.length → levsTo ls i ≤ cntTo ls i * 10000
  | 0, _ => Nat.zero_le _
  | i + 1, hi => by
    have h1 := levsTo_le hm hw hf i (by omega)
    have h2 := levTo_le (i := i) (by omega) (hw i (by omega)) (hf i (by omega)) _ (Nat.le_refl _)
    show levsTo ls i + levTo i (lat ls i) (lat ls i).length ≤ (cntTo ls i + (lat ls i).length) * 10000
    rw [Nat.add_mul]
    omega

set_option maxRecDepth 100000 in
set_option maxHeartbeats 8000000 in
theorem length_any (F : Nat → Prop) (v : Ver) (lv : Value) (w : World) (h : Rw (rowK filK) F w lv v.levels) (hw : v.wf) (hc : cntTo v.levels v.levels.length ≤ 10000) (hm : v.levels.length ≤ 10) (hf : ∀ i, i < v.levels.length → ∀ f ∈ lat v.levels i, f.Fine) :
    Calls Try.prog 74 #[.agg (verCells v lv).toArray] w fun e w' => e = .returned (.int .i64 (lenV v : Int)) ∧ Below w.heap.size w w' := by
  obtain ⟨xa, ca, rfl⟩ := h.isSlice
  have HA : Hid (Rw (rowK filK) (· < w.heap.size) w (.slice xa v.levels.length ca) v.levels) := h.mono fun k hk _ => hk
  have HWF := Lib.hid hw
  have HF := Lib.hid hf
  have HCT := Lib.hid hc
  have HWL := Lib.hid h.lwf
  have HLS := Lib.hid (levsTo_le hm h.lwf hf)
  clear h hw hf hc
  obtain ⟨m, hm1⟩ : ∃ m, v.levels.length = m := ⟨_, rfl⟩
  have HM := Lib.hid hm1
  rw [hm1] at HA hm
  unfold verCells
  rw [hm1]
  clear hm1
  go_enter Try.func74, Try.ntmps74
  go_upto_region 2 with fail
  refine wp_gen fun w1 hw1 => ?_
  have HX1 : Hid (Blk w1 w.heap.size (verCells v (.slice xa m ca)).toArray 25) := by rw [hw1]; exact (Blk.at_new rfl rfl).alloc _
  have HN1 : Hid (Blk w1 (w.heap.size + 1) #[.int .i64 ((1 + levsTo v.levels 0 : Nat) : Int)] 3) := by rw [hw1]; exact Blk.at_new (by simp) rfl
  have HW1 : Hid (Below w.heap.size w w1) := by rw [hw1]; exact below_two _ _ _
  clear hw1
  have x0 : w1.cell? ⟨w.heap.size, 0, none⟩ = some (.slice xa m ca) := HX1.out.cell rfl
  have HXL : Hid (w.heap.size < w1.heap.size ∧ w.heap.size + 1 < w1.heap.size) := ⟨HX1.out.lt, HN1.out.lt⟩
  generalize hxb : w.heap.size + 1 = nb at *
  go_wp2_with fail
  clear x0
  go_loopw [4, 14] (fun cv iv wr => ∃ (i : Nat), iv = .int .i64 (i : Int) ∧ i ≤ m ∧ cv = .int .i64 (cntTo v.levels i : Int) ∧ Hid (Blk wr nb #[.int .i64 ((1 + levsTo v.levels i : Nat) : Int)] 3) ∧ Hid (Blk wr w.heap.size (verCells v (.slice xa m ca)).toArray 25) ∧ Hid (Below w.heap.size w wr)) (fun _ iv _ => m - (intOf iv).toNat)
  case atStart => exact ⟨0, rfl, by omega, rfl, HN1.out, HX1.out, HW1.out⟩
  case round =>
    obtain ⟨i, rfl, hi, rfl, HN, HX, HB⟩ := hrel
    clear HN1 HX1 HW1
    by_cases hlt : i < m
    · have t1 : (i : Int) < (m : Int) := by omega
      have t3 : 0 ≤ (i : Int) := by omega
      have hil : i < v.levels.length := by rw [HM.out]; exact hlt
      obtain ⟨bl, ol, capl, el, hbl, _, hcl⟩ := levs_at HA.out (by omega)
      obtain ⟨u, hu, c0⟩ := hcl i hil
      injection el with e1 e2 e3
      subst e1 e3
      clear e2 hcl
      have c0 := (HB.out.cell (p := ⟨bl, ol + i, none⟩) hbl).trans c0
      have HFI := Lib.hid (HF.out i hil)
      have HWI := Lib.hid (HWL.out i hil)
      have hlv : levsTo v.levels (i + 1) = levsTo v.levels i + levTo i (lat v.levels i) (lat v.levels i).length := rfl
      have hct : cntTo v.levels (i + 1) = cntTo v.levels i + (lat v.levels i).length := rfl
      obtain ⟨l, hl⟩ : ∃ l, lat v.levels i = l := ⟨_, rfl⟩
      rw [hl] at hu HFI HWI hlv hct
      have HTL := Lib.hid (levTo_le (i := i) (by omega) HWI.out HFI.out)
      obtain ⟨ua, uc, rfl⟩ := hu.isSlice
      obtain ⟨n, hn⟩ : ∃ n, l.length = n := ⟨_, rfl⟩
      have HLN := Lib.hid hn
      rw [hn] at c0 hu hct
      have HLV := Lib.hid hlv
      have HCN := Lib.hid hct
      have HU := Lib.hid hu
      have HLE : Hid (cntTo v.levels i + n ≤ 10000) := by
        have h1 : ∀ j, j ≤ m → cntTo v.levels j ≤ 10000 := fun j hj => by
          have h2 : ∀ d, cntTo v.levels j ≤ cntTo v.levels (j + d) := fun d => by
            induction d with
            | zero => exact Nat.le_refl _
            | succ d ih => exact Nat.le_trans ih (Nat.le_add_right _ _)
          have h3 := h2 (m - j)
          rw [show j + (m - j) = m by omega, ← HM.out] at h3
          exact Nat.le_trans h3 HCT.out
        have := h1 (i + 1) (by omega)
        rw [hct] at this
        exact this
      have HLL : Hid (levsTo v.levels i ≤ cntTo v.levels i * 10000) := HLS.out i (by omega)
      obtain ⟨c, hc⟩ : ∃ c, cntTo v.levels i = c := ⟨_, rfl⟩
      have HCC := Lib.hid hc
      rw [hc] at HLE HLL
      rw [hc]
      obtain ⟨d, hd⟩ : ∃ d, 1 + levsTo v.levels i = d := ⟨_, rfl⟩
      have HDD := Lib.hid hd
      rw [hd] at HN
      have hce := HLE.out
      clear hl hu hn hil hlv hct hc hd
      go_wp2_with fail
      clear c0
      go_loopw [4, 21] (fun cv kv wr => ∃ (k : Nat), kv = .int .i64 (k : Int) ∧ k ≤ n ∧ cv = .int .i64 ((c + k : Nat) : Int) ∧ Hid (Blk wr nb #[.int .i64 ((d + levTo i l k : Nat) : Int)] 3) ∧ Hid (Blk wr w.heap.size (verCells v (.slice (some ⟨bl, ol, none⟩) m ca)).toArray 25) ∧ Hid (Below w.heap.size w wr)) (fun _ kv _ => n - (intOf kv).toNat)
      case atStart => exact ⟨0, rfl, by omega, rfl, HN.out, HX.out, HB.out⟩
      case round =>
        obtain ⟨k, rfl, hk, rfl, HNk, HXk, HBk⟩ := hrel
        clear HN HX HB
        by_cases hkn : k < n
        · have t5 : (k : Int) < (n : Int) := by omega
          have t6 : 0 ≤ (k : Int) := by omega
          have hkl : k < l.length := by rw [HLN.out]; exact hkn
          obtain ⟨bf, of, capf, ef, hbf, _, hcf⟩ := fils_at HU.out (by omega)
          obtain ⟨vl, vm, hvl, hvm, hwf, hc6⟩ := hcf k hkl
          injection ef with e1 e2 e3
          subst e1 e3
          clear e2 hcf
          have HFN := Lib.hid (HFI.out _ (fat_mem hkl))
          have HLT := Lib.hid (levTo_succ (i := i) hkl)
          obtain ⟨f, hf⟩ : ∃ f, fat l k = f := ⟨_, rfl⟩
          rw [hf] at hvl hvm hwf hc6 HFN HLT
          obtain ⟨la, lc, rfl⟩ := hvl.isSlice
          obtain ⟨ma, mc, rfl⟩ := hvm.isSlice
          have HWFf := Lib.hid hwf
          have hc6 := hc6.keep HBk.out hbf
          obtain ⟨c0, c1, c2, c3, c4, c5⟩ := hc6
          obtain ⟨e, he⟩ : ∃ e, d + levTo i l k = e := ⟨_, rfl⟩
          have HEE := Lib.hid he
          rw [he] at HNk
          clear hvl hvm hwf hf hkl he
          go_upto_region 10 with fail
          clear c0 c1 c2 c3 c4 c5
          refine wp_gen fun w3 hw3 => ?_
          have HE3 : Hid (Blk w3 wr.heap.size (filCells f (.slice la f.least.length lc) (.slice ma f.most.length mc)).toArray 42) := by rw [hw3]; exact Blk.at_new rfl rfl
          have HW3 : Hid (Below wr.heap.size wr w3) := by rw [hw3]; exact (Below.refl _ _).alloc (Nat.le_refl _) _
          clear hw3
          have x0 : w3.cell? ⟨wr.heap.size, 0, none⟩ = some (.int .u64 f.num) := HE3.out.cell rfl
          have x1 : w3.cell? ⟨wr.heap.size, 1, none⟩ = some (.int .i64 f.size) := HE3.out.cell rfl
          have x2 : w3.cell? ⟨wr.heap.size, 2, none⟩ = some (.slice la f.least.length lc) := HE3.out.cell rfl
          have x3 : w3.cell? ⟨wr.heap.size, 3, none⟩ = some (.slice ma f.most.length mc) := HE3.out.cell rfl
          have x4 : w3.cell? ⟨wr.heap.size, 4, none⟩ = some (.int .i64 f.ents) := HE3.out.cell rfl
          have x5 : w3.cell? ⟨wr.heap.size, 5, none⟩ = some (.int .u64 f.mseq) := HE3.out.cell rfl
          go_wp2_with fail
          refine calls_gen fun w4 hw4 => ?_
          clear x0 x1 x2 x3 x4 x5
          have hin := fileNums_in (i := i) (by omega) HWFf.out HFN.out
          have HIN := Lib.hid hin
          have e1 : IntKind.u64.wrap f.size = f.size := wrapU (hin _ (by simp [fileNums]))
          have e2 : IntKind.u64.wrap f.ents = f.ents := wrapU (hin _ (by simp [fileNums]))
          have e3 : IntKind.u64.wrap (f.least.length : Int) = (f.least.length : Int) := wrapU (hin _ (by simp [fileNums]))
          have e4 : IntKind.u64.wrap (f.most.length : Int) = (f.most.length : Int) := wrapU (hin _ (by simp [fileNums]))
          have HW4 : Hid (Below w3.heap.size w3 w4) := by rw [hw4]; exact (Below.refl _ _).alloc (Nat.le_refl _) _
          have HR4 : Hid (Rw u64K (fun j => j = w3.heap.size ∨ False) w4 (.slice (some ⟨w3.heap.size, 0, none⟩) 7 7) (fileNums i f)) := by
            rw [hw4, e1, e2, e3, e4]
            exact rw_lit (K := u64K) (F := fun _ => False) (n := 7) (xs := fileNums i f) (Blk.at_new rfl rfl) ⟨rfl, rfl, rfl, rfl, rfl, rfl, rfl, rfl⟩ rfl (by decide)
          clear hw4 e1 e2 e3 e4 hin
          have HN4 : Hid (Blk w4 nb #[.int .i64 (e : Int)] 3) := (HNk.out.below HW3.out HNk.out.lt).below HW4.out (Nat.lt_of_lt_of_le HNk.out.lt HW3.out.size)
          have HNL : Hid (nb < wr.heap.size) := HNk.out.lt
          have HE4 : Hid (Blk w4 wr.heap.size (filCells f (.slice la f.least.length lc) (.slice ma f.most.length mc)).toArray 42) := HE3.out.below HW4.out HE3.out.lt
          have HX4 : Hid (Blk w4 w.heap.size (verCells v (.slice (some ⟨bl, ol, none⟩) m ca)).toArray 25) := (HXk.out.below HW3.out HXk.out.lt).below HW4.out (Nat.lt_of_lt_of_le HXk.out.lt HW3.out.size)
          have HB4 : Hid (Below w.heap.size w w4) := (HBk.out.trans (HW3.out.mono HBk.out.size)).trans (HW4.out.mono (Nat.le_trans HBk.out.size HW3.out.size))
          have hel : e ≤ 200000000 := by
            have h1 := HTL.out k (by rw [HLN.out]; omega)
            have h2 := HLL.out
            have h3 := HDD.out
            have h4 := HEE.out
            have h5 := HCC.out
            omega
          have HWS : Hid (wr.heap.size ≤ w3.heap.size) := HW3.out.size
          have HWB : Hid (w.heap.size ≤ wr.heap.size ∧ w.heap.size < nb) := ⟨HBk.out.size, by show _ < _; rw [← hxb]; exact Nat.lt_succ_self _⟩
          clear HNk HXk HBk HE3 HW3 HW4
          refine Calls.mono (count_any _ _ (fileNums i f) nb e _ HR4.out (fun j hj e0 => by have := HNL.out; have := HWS.out; rcases hj with hj | hj; omega; exact hj) HIN.out HN4.out (by show 7 ≤ 100; decide) (by omega)) ?_
          rintro _ w5 ⟨rfl, hw5, hn5⟩
          obtain ⟨g, hg⟩ : ∃ g, e + sizes (fileNums i f) = g := ⟨_, rfl⟩
          have hgl : g ≤ 200000100 := by
            have h1 := sizes_le HIN.out
            have h2 : (fileNums i f).length = 7 := rfl
            omega
          rw [hg] at hn5
          have HGG := Lib.hid hg
          have HN5 := Lib.hid hn5
          have HE5 : Hid (Blk w5 wr.heap.size (filCells f (.slice la f.least.length lc) (.slice ma f.most.length mc)).toArray 42) := HE4.out.same (hw5.block _ HE4.out.lt (fun e0 => by have := HNL.out; omega))
          have HX5 : Hid (Blk w5 w.heap.size (verCells v (.slice (some ⟨bl, ol, none⟩) m ca)).toArray 25) := HX4.out.same (hw5.block _ HX4.out.lt (fun e0 => by have := HWB.out.2; omega))
          have HB5 : Hid (Below w.heap.size w w5) := HB4.out.trans (hw5.below HB4.out.size (fun j hj => by rw [hj]; have := HWB.out.2; omega))
          have hkl1 := keyOk_len HFN.out.least
          have hkl2 := keyOk_len HFN.out.most
          clear hw5 hn5 hg HE4 HX4 HB4 HN4 HR4 HIN
          have x0 : w5.cell? ⟨nb, 0, none⟩ = some (.int .i64 (g : Int)) := HN5.out.cell rfl
          have x1 : w5.frozen? ⟨nb, 0, none⟩ = false := HN5.out.free 0
          have x2 : w5.cell? ⟨wr.heap.size, 2, none⟩ = some (.slice la f.least.length lc) := HE5.out.cell rfl
          have x3 : w5.cell? ⟨wr.heap.size, 3, none⟩ = some (.slice ma f.most.length mc) := HE5.out.cell rfl
          have HFL : Hid (filLen i f = sizes (fileNums i f) + (f.least.length + f.most.length)) := rfl
          generalize f.least.length = ll at *
          generalize f.most.length = ml at *
          go_upto_region 12 with fail
          refine wp_gen fun w6 hw6 => ?_
          have HN6 : Hid (Blk w6 nb #[.int .i64 ((d + levTo i l (k + 1) : Nat) : Int)] 3) := by
            rw [hw6]
            have h5 := HN5.out.set 0 (.int .i64 ((g : Int) + ((ll : Int) + (ml : Int))))
            rw [show ((d + levTo i l (k + 1) : Nat) : Int) = (g : Int) + ((ll : Int) + (ml : Int)) by rw [HLT.out, HFL.out]; have := HEE.out; have := HGG.out; omega]
            exact h5
          have HX6 : Hid (Blk w6 w.heap.size (verCells v (.slice (some ⟨bl, ol, none⟩) m ca)).toArray 25) := by rw [hw6]; exact HX5.out.set_other _ _ (by show nb ≠ _; have := HWB.out.2; omega)
          have HB6 : Hid (Below w.heap.size w w6) := by rw [hw6]; exact HB5.out.setCell (by show _ ≤ nb; have := HWB.out.2; omega) _
          clear hw6 HN5 HX5 HB5 HE5 x0 x1 x2 x3 HGG HEE HLT HFL
          go_wp2_with fail
          go_roundw
          · exact ⟨k + 1, by go_num, by omega, by go_num, HN6.out, HX6.out, HB6.out⟩
          · simp only [intOf]; omega
        · have t5 : ¬ (k : Int) < (n : Int) := by omega
          have hkn2 : k = n := by omega
          have HNN : Hid (Blk wr nb #[.int .i64 ((1 + levsTo v.levels (i + 1) : Nat) : Int)] 3) := by
            rw [HLV.out, HLN.out, ← Nat.add_assoc, HDD.out, ← hkn2]
            exact HNk.out
          have HCE : Hid (((c + k : Nat) : Int) = (cntTo v.levels (i + 1) : Int)) := by show _ = _; rw [HCN.out, HCC.out, hkn2]
          rw [HCE.out]
          clear HNk hkn2
          go_wp2_with fail
          go_roundw
          · exact ⟨i + 1, by go_num, by omega, rfl, HNN.out, HXk.out, HBk.out⟩
          · simp only [intOf]; omega
    · have t1 : ¬ (i : Int) < (m : Int) := by omega
      have him : i = m := by omega
      subst him
      have hcl : cntTo v.levels i ≤ 10000 := by have := HCT.out; rw [HM.out] at this; exact this
      have hdl : 1 + levsTo v.levels i ≤ 100000001 := by have := HLS.out i (by rw [HM.out]; exact Nat.le_refl _); omega
      obtain ⟨c, hc⟩ : ∃ c, cntTo v.levels i = c := ⟨_, rfl⟩
      have HCC := Lib.hid hc
      obtain ⟨d, hd⟩ : ∃ d, 1 + levsTo v.levels i = d := ⟨_, rfl⟩
      have HDD := Lib.hid hd
      rw [hc] at hcl
      rw [hd] at hdl HN
      rw [hc]
      clear hc hd
      have x1 : wr.cell? ⟨w.heap.size, 1, none⟩ = some (.int .u64 v.next) := HX.out.cell rfl
      have x2 : wr.cell? ⟨w.heap.size, 2, none⟩ = some (.int .u64 v.seq) := HX.out.cell rfl
      have x3 : wr.cell? ⟨w.heap.size, 3, none⟩ = some (.int .u64 v.log) := HX.out.cell rfl
      go_wp2_with fail
      refine calls_gen fun w4 hw4 => ?_
      clear x1 x2 x3
      have HIN : Hid (∀ x ∈ [v.next, v.seq, v.log, (c : Int)], u64In x) := by
        intro x hx
        simp only [List.mem_cons, List.not_mem_nil, or_false] at hx
        rcases hx with rfl | rfl | rfl | rfl
        · exact HWF.out.1
        · exact HWF.out.2.1
        · exact HWF.out.2.2
        · constructor <;> omega
      have e1 : IntKind.u64.wrap (c : Int) = (c : Int) := wrapU (by constructor <;> omega)
      have HW4 : Hid (Below wr.heap.size wr w4) := by rw [hw4]; exact (Below.refl _ _).alloc (Nat.le_refl _) _
      have HR4 : Hid (Rw u64K (fun j => j = wr.heap.size ∨ False) w4 (.slice (some ⟨wr.heap.size, 0, none⟩) 4 4) [v.next, v.seq, v.log, (c : Int)]) := by
        rw [hw4]
        try rw [e1]
        exact rw_lit (K := u64K) (F := fun _ => False) (n := 4) (xs := [v.next, v.seq, v.log, (c : Int)]) (Blk.at_new rfl rfl) ⟨rfl, rfl, rfl, rfl, rfl⟩ rfl (by decide)
      have HN4 : Hid (Blk w4 nb #[.int .i64 (d : Int)] 3) := HN.out.below HW4.out HN.out.lt
      have HNL : Hid (nb < wr.heap.size ∧ w.heap.size < nb) := ⟨HN.out.lt, by show _ < _; rw [← hxb]; exact Nat.lt_succ_self _⟩
      have HB4 : Hid (Below w.heap.size w w4) := HB.out.trans (HW4.out.mono HB.out.size)
      clear hw4 e1 HN HX HB HW4
      refine Calls.mono (count_any _ _ [v.next, v.seq, v.log, (c : Int)] nb d _ HR4.out (fun j hj e0 => by have := HNL.out; rcases hj with hj | hj; omega; exact hj) HIN.out HN4.out (by show 4 ≤ 100; decide) (by omega)) ?_
      rintro _ w5 ⟨rfl, hw5, hn5⟩
      have HB5 : Hid (Below w.heap.size w w5) := HB4.out.trans (hw5.below HB4.out.size (fun j hj => by rw [hj]; have := HNL.out.2; omega))
      have HRES : Hid (d + sizes [v.next, v.seq, v.log, (c : Int)] = lenV v) := by show _ = _; unfold lenV; rw [HM.out, HDD.out, HCC.out]
      rw [HRES.out] at hn5
      have x0 := hn5.cell (i := 0) rfl
      clear hw5 hn5 HB4 HN4 HR4 HRES HIN
      go_wp2_with fail
      go_ret
      exact ⟨rfl, HB5.out⟩
end Go.Proofs.Ytkcohhldmhdcfaa

namespace Go.Proofs.Ytkcohhldmhdcfaa
open Go.RowKit

def behind (lv : Nat) (a b : Fil) : Prop := if lv = 0 then a.num < b.num else Ent.bcmp a.most b.least < 0
def nums (ls : List (List Fil)) (i k : Nat) : List Int := ((ls.take i).flatten ++ (lat ls i).take k).map Fil.num
structure OkAt (next : Int) (ls : List (List Fil)) (i k : Nat) : Prop where
  fine : (fat (lat ls i) k).Fine
  new : (fat (lat ls i) k).num ∉ nums ls i k
  next : (fat (lat ls i) k).num < next
  order : 0 < k → behind i (fat (lat ls i) (k - 1)) (fat (lat ls i) k)
structure AllTo (next : Int) (ls : List (List Fil)) (i k : Nat) : Prop where
  lev : ∀ i', i' < i → ∀ k', k' < (lat ls i').length → OkAt next ls i' k'
  cur : ∀ k', k' < k → OkAt next ls i k'
theorem AllTo.start (next : Int) (ls : List (List Fil)) : AllTo next ls 0 0 := ⟨fun _ h => by omega, fun _ h => by omega⟩
theorem AllTo.more {next : Int} {ls : List (List Fil)} {i k : Nat} (h : AllTo next ls i k) (h1 : OkAt next ls i k) : AllTo next ls i (k + 1) := ⟨h.lev, fun k' hk => by
  by_cases e : k' = k
  · subst e; exact h1
  · exact h.cur k' (by omega)⟩
theorem AllTo.close {next : Int} {ls : List (List Fil)} {i : Nat} (h : AllTo next ls i (lat ls i).length) : AllTo next ls (i + 1) 0 := ⟨fun i' hi k' hk => by
  by_cases e : i' = i
  · subst e; exact h.cur k' hk
  · exact h.lev i' (by omega) k' hk, fun _ hk => by omega⟩
theorem nums_more {ls : List (List Fil)} {i k : Nat} (h : k < (lat ls i).length) : nums ls i (k + 1) = nums ls i k ++ [(fat (lat ls i) k).num] := by
  unfold nums
  rw [List.take_succ_eq_append_getElem h, fat_eq h]
  simp
theorem nums_close {ls : List (List Fil)} {i : Nat} (h : i < ls.length) : nums ls i (lat ls i).length = nums ls (i + 1) 0 := by
  unfold nums
  rw [List.take_of_length_le (Nat.le_refl _), List.take_succ_eq_append_getElem h, lat_eq h]
  simp
structure Hdr (v : Ver) : Prop where
  five : v.levels.length = 5
  n0 : 1 ≤ v.next
  n1 : v.next ≤ 1000000000000
  seq : v.seq ≤ maxSeq
  log : v.log < 1000000000000
def Good (v : Ver) : Prop := AllTo v.next v.levels v.levels.length 0
open Classical in
/-- May a version be? 0: it may; 2: it may not; 3: it is too long. -/
noncomputable def chkW (v : Ver) : Int := if ¬ (Hdr v ∧ Good v) then 2 else if 10000 < cntTo v.levels v.levels.length ∨ 1048576 < lenV v then 3 else 0
theorem chkW_hdr {v : Ver} (h : ¬ Hdr v) : chkW v = 2 := by unfold chkW; rw [if_pos fun e => h e.1]
theorem chkW_bad {v : Ver} {i k : Nat} (hi : i < v.levels.length) (hk : k < (lat v.levels i).length) (h : ¬ OkAt v.next v.levels i k) : chkW v = 2 := by
  unfold chkW
  rw [if_pos fun e => h (e.2.lev i hi k hk)]
theorem chkW_long {v : Ver} (h1 : Hdr v) (h2 : Good v) (h3 : 10000 < cntTo v.levels v.levels.length ∨ 1048576 < lenV v) : chkW v = 3 := by
  unfold chkW
  rw [if_neg fun e => e ⟨h1, h2⟩, if_pos h3]
theorem chkW_ok {v : Ver} (h1 : Hdr v) (h2 : Good v) (h3 : ¬ (10000 < cntTo v.levels v.levels.length ∨ 1048576 < lenV v)) : chkW v = 0 := by
  unfold chkW
  rw [if_neg fun e => e ⟨h1, h2⟩, if_neg h3]
theorem Good.fine {v : Ver} (h : Good v) : ∀ i, i < v.levels.length → ∀ f ∈ lat v.levels i, f.Fine := by
  intro i hi f hf
  obtain ⟨k, hk, rfl⟩ := List.mem_iff_getElem.1 hf
  rw [fat_eq hk]
  exact (h.lev i hi k hk).fine
theorem SetB.congr {w : World} {b n n' : Nat} {S S' : List Int} (h : SetB w b n S) (hn : n = n') (hS : ∀ x, x ∈ S ↔ x ∈ S') : SetB w b n' S' := by
  subst hn
  obtain ⟨D, h1, h2⟩ := h
  exact ⟨D, h1, fun x hx => by rw [h2 x hx]; simp [hS x]⟩
/-- A row that is known as rows are: the level's cells at world w. -/
theorem quiet_same {P : Program} {f : FuncId} {args : Array Value} {w : World} {r : Ending} (h : Calls P f args w fun e w' => e = r ∧ w' = w) : Calls P f args w fun e w' => e = r ∧ ∃ n, w' = w.drewN n :=
  h.mono fun _ _ ⟨h1, h2⟩ => ⟨h1, 0, by rw [h2]; rfl⟩

set_option maxRecDepth 100000 in
set_option maxHeartbeats 8000000 in
theorem check_any (F : Nat → Prop) (v : Ver) (lv : Value) (w : World) (h : Rw (rowK filK) F w lv v.levels) (hw : v.wf) (hfew : cntTo v.levels v.levels.length ≤ 1000000) :
    Calls Try.prog 33 #[.agg (verCells v lv).toArray] w fun e w' => e = .returned (.int .i64 (chkW v)) ∧ Below w.heap.size w w' := by
  obtain ⟨xa, ca, rfl⟩ := h.isSlice
  have HA : Hid (Rw (rowK filK) (· < w.heap.size) w (.slice xa v.levels.length ca) v.levels) := h.mono fun k hk _ => hk
  have HWF := Lib.hid hw
  have HFEW := Lib.hid hfew
  have HWL := Lib.hid h.lwf
  clear h hw hfew
  obtain ⟨m, hm1⟩ : ∃ m, v.levels.length = m := ⟨_, rfl⟩
  have HM := Lib.hid hm1
  rw [hm1] at HA
  unfold verCells
  rw [hm1]
  clear hm1
  have hmm := @run_makeMap Try.prog

  by_cases h0 : m = 5
  case neg =>
    have g0 : ((m : Int) == 5) = false := by simp; omega
    have g1 : ((m : Int) != 5) = true := by simp; omega
    have HF : Hid (chkW v = 2) := chkW_hdr fun e => h0 (by rw [← HM.out]; exact e.five)
    clear h0 hmm
    go_enter Try.func33, Try.ntmps33
    go_wp2_with fail
    go_ret
    exact ⟨ret_int HF.out.symm, (Below.refl _ _).alloc (Nat.le_refl _) _⟩
  subst h0
  by_cases h1 : 1 ≤ v.next
  case neg =>
    have g1 : v.next < 1 := by omega
    have HF : Hid (chkW v = 2) := chkW_hdr fun e => h1 e.n0
    clear h1 hmm
    go_enter Try.func33, Try.ntmps33
    go_wp2_with fail
    go_ret
    exact ⟨ret_int HF.out.symm, (Below.refl _ _).alloc (Nat.le_refl _) _⟩
  by_cases h2 : v.next ≤ 1000000000000
  case neg =>
    have g1 : 1000000000000 < v.next := by omega
    have HF : Hid (chkW v = 2) := chkW_hdr fun e => h2 e.n1
    clear h2 hmm
    go_enter Try.func33, Try.ntmps33
    go_wp2_with fail
    go_ret
    exact ⟨ret_int HF.out.symm, (Below.refl _ _).alloc (Nat.le_refl _) _⟩
  by_cases h3 : v.seq ≤ 72057594037927935
  case neg =>
    have g1 : 72057594037927935 < v.seq := by omega
    have HF : Hid (chkW v = 2) := chkW_hdr fun e => h3 e.seq
    clear h3 hmm
    go_enter Try.func33, Try.ntmps33
    go_wp2_with fail
    go_ret
    exact ⟨ret_int HF.out.symm, (Below.refl _ _).alloc (Nat.le_refl _) _⟩
  by_cases h4 : v.log < 1000000000000
  case neg =>
    have g1 : 1000000000000 ≤ v.log := by omega
    have HF : Hid (chkW v = 2) := chkW_hdr fun e => h4 e.log
    clear h4 hmm
    go_enter Try.func33, Try.ntmps33
    go_wp2_with fail
    go_ret
    exact ⟨ret_int HF.out.symm, (Below.refl _ _).alloc (Nat.le_refl _) _⟩
  have HH : Hid (Hdr v) := ⟨HM.out, h1, h2, h3, h4⟩
  go_enter Try.func33, Try.ntmps33
  go_upto_region 4 with fail
  refine wp_gen fun w1 hw1 => ?_
  have HX1 : Hid (Blk w1 w.heap.size (verCells v (.slice xa 5 ca)).toArray 25) := by rw [hw1]; exact (Blk.at_new rfl rfl).alloc _
  have HS1 : Hid (SetB w1 (w.heap.size + 1) 0 []) := by
    rw [hw1]
    have h5 := SetB.made (w.alloc (.cells (verCells v (.slice xa 5 ca)).toArray 25))
    have e5 : (w.alloc (.cells (verCells v (.slice xa 5 ca)).toArray 25)).heap.size = w.heap.size + 1 := by simp
    rw [e5] at h5
    exact h5
  have HW1 : Hid (Below w.heap.size w w1) := by rw [hw1]; exact below_two _ _ _
  clear hw1 hmm h1 h2 h3 h4
  obtain ⟨mb, hmb⟩ : ∃ mb, w.heap.size + 1 = mb := ⟨_, rfl⟩
  have HMB := Lib.hid hmb
  rw [hmb] at HS1
  rw [hmb]
  clear hmb
  have x0 : w1.cell? ⟨w.heap.size, 0, none⟩ = some (.slice xa 5 ca) := HX1.out.cell rfl
  go_wp2_with fail
  clear x0
  go_loopw [4, 37] (fun cv iv wr => ∃ (i : Nat), iv = .int .i64 (i : Int) ∧ i ≤ 5 ∧ cv = .int .i64 (cntTo v.levels i : Int) ∧ Hid (AllTo v.next v.levels i 0) ∧ Hid (SetB wr mb (cntTo v.levels i) (nums v.levels i 0)) ∧ Hid (Blk wr w.heap.size (verCells v (.slice xa 5 ca)).toArray 25) ∧ Hid (Below w.heap.size w wr)) (fun _ iv _ => 5 - (intOf iv).toNat)
  case atStart => exact ⟨0, rfl, by omega, rfl, AllTo.start _ _, HS1.out.congr rfl (fun x => by simp [nums]), HX1.out, HW1.out⟩
  case round =>
    obtain ⟨i, rfl, hi, rfl, HAT, HS, HX, HB⟩ := hrel
    clear HS1 HX1 HW1
    by_cases hlt : i < 5
    · have t1 : (i : Int) < 5 := by omega
      have t3 : 0 ≤ (i : Int) := by omega
      have hil : i < v.levels.length := by rw [HM.out]; exact hlt
      obtain ⟨bl, ol, capl, el, hbl, _, hcl⟩ := levs_at HA.out (by omega)
      obtain ⟨u, hu, c0⟩ := hcl i hil
      injection el with e1 e2 e3
      subst e1 e3
      clear e2 hcl
      have c0 := (HB.out.cell (p := ⟨bl, ol + i, none⟩) hbl).trans c0
      have HWI := Lib.hid (HWL.out i hil)
      have HCLO := Lib.hid (fun h => AllTo.close (next := v.next) (ls := v.levels) (i := i) h)
      have HNC := Lib.hid (nums_close hil)
      have HNM := Lib.hid (fun k hk => nums_more (ls := v.levels) (i := i) (k := k) hk)
      have HBAD := Lib.hid (fun k hk h => chkW_bad (v := v) (i := i) (k := k) hil hk h)
      have hct : cntTo v.levels (i + 1) = cntTo v.levels i + (lat v.levels i).length := rfl
      obtain ⟨n, hn⟩ : ∃ n, (lat v.levels i).length = n := ⟨_, rfl⟩
      have HLN := Lib.hid hn
      obtain ⟨ua, uc, rfl⟩ := hu.isSlice
      rw [hn] at c0 hu hct HCLO HNC HNM HBAD
      have HU := Lib.hid hu
      have HCN := Lib.hid hct
      have HCL : Hid (cntTo v.levels i + n ≤ 1000000) := by
        have h2 : ∀ d j, cntTo v.levels j ≤ cntTo v.levels (j + d) := fun d j => by
          induction d with
          | zero => exact Nat.le_refl _
          | succ d ih => exact Nat.le_trans ih (Nat.le_add_right _ _)
        have h3 := h2 (5 - (i + 1)) (i + 1)
        rw [show i + 1 + (5 - (i + 1)) = 5 by omega] at h3
        have h4 := HFEW.out
        rw [HM.out] at h4
        rw [← hct]
        exact Nat.le_trans h3 h4
      obtain ⟨c, hc⟩ : ∃ c, cntTo v.levels i = c := ⟨_, rfl⟩
      have HCC := Lib.hid hc
      rw [hc] at HCL HS
      rw [hc]
      have hcl := HCL.out
      clear hu hn hil hct hc
      go_wp2_with fail
      clear c0
      go_loopw [4, 44] (fun cv kv wr => ∃ (k : Nat), kv = .int .i64 (k : Int) ∧ k ≤ n ∧ cv = .int .i64 ((c + k : Nat) : Int) ∧ Hid (AllTo v.next v.levels i k) ∧ Hid (SetB wr mb (c + k) (nums v.levels i k)) ∧ Hid (Blk wr w.heap.size (verCells v (.slice (some ⟨bl, ol, none⟩) 5 ca)).toArray 25) ∧ Hid (Below w.heap.size w wr)) (fun _ kv _ => n - (intOf kv).toNat)
      case atStart => exact ⟨0, rfl, by omega, rfl, HAT.out, HS.out, HX.out, HB.out⟩
      case round =>
        obtain ⟨k, rfl, hk, rfl, HATk, HSk, HXk, HBk⟩ := hrel
        clear HAT HS HX HB
        by_cases hkn : k < n
        · have t5 : (k : Int) < (n : Int) := by omega
          have t6 : 0 ≤ (k : Int) := by omega
          have hkl : k < (lat v.levels i).length := by rw [HLN.out]; exact hkn
          obtain ⟨bf, of, capf, ef, hbf, _, hcf⟩ := fils_at HU.out (by omega)
          have hcf2 := Lib.hid hcf
          obtain ⟨vl, vm, hvl, hvm, hwf, hc6⟩ := hcf k hkl
          injection ef with e1 e2 e3
          subst e1 e3
          clear e2 hcf
          have HOK := Lib.hid (fun (h : OkAt v.next v.levels i k) => HATk.out.more h)
          have HBK := Lib.hid (HBAD.out k hkn)
          have HNMk := Lib.hid (HNM.out k hkn)
          obtain ⟨f, hf⟩ : ∃ f, fat (lat v.levels i) k = f := ⟨_, rfl⟩
          have HFF := Lib.hid hf
          have HMK : Hid (OkAt v.next v.levels i k ↔ f.Fine ∧ f.num ∉ nums v.levels i k ∧ f.num < v.next ∧ (0 < k → behind i (fat (lat v.levels i) (k - 1)) f)) := by
            show _ ↔ _
            rw [← hf]
            exact ⟨fun h => ⟨h.fine, h.new, h.next, h.order⟩, fun h => ⟨h.1, h.2.1, h.2.2.1, h.2.2.2⟩⟩
          rw [hf] at hvl hvm hwf hc6 HNMk
          obtain ⟨la, lc, rfl⟩ := hvl.isSlice
          obtain ⟨ma, mc, rfl⟩ := hvm.isSlice
          have HVL := Lib.hid hvl
          have HVM := Lib.hid hvm
          have HNU := Lib.hid hwf.1
          have hc6 := hc6.keep HBk.out hbf
          have HBF : Hid (bf < w.heap.size) := hbf
          obtain ⟨c0, c1, c2, c3, c4, c5⟩ := hc6
          clear hvl hvm hwf hf hkl hbf
          go_upto_region 12 with fail
          clear c0 c1 c2 c3 c4 c5
          refine wp_gen fun w3 hw3 => ?_
          have HE3 : Hid (Blk w3 wr.heap.size (filCells f (.slice la f.least.length lc) (.slice ma f.most.length mc)).toArray 42) := by rw [hw3]; exact Blk.at_new rfl rfl
          have HW3 : Hid (Below wr.heap.size wr w3) := by rw [hw3]; exact (Below.refl _ _).alloc (Nat.le_refl _) _
          have HB3 : Hid (Below w.heap.size w w3) := HBk.out.trans (HW3.out.mono HBk.out.size)
          have HS3 := Lib.hid (HSk.out.below HW3.out)
          have HX3 : Hid (Blk w3 w.heap.size (verCells v (.slice (some ⟨bl, ol, none⟩) 5 ca)).toArray 25) := HXk.out.below HW3.out HXk.out.lt
          have HZ : Hid (w.heap.size ≤ wr.heap.size) := HBk.out.size
          have HNE : Hid (wr.heap.size ≠ mb) := by have := HSk.out.lt; show _ ≠ _; omega
          clear hw3 HSk HXk HBk HW3
          generalize wr.heap.size = fb at *
          have x0 : w3.cell? ⟨fb, 0, none⟩ = some (.int .u64 f.num) := HE3.out.cell rfl
          have x1 : w3.cell? ⟨fb, 1, none⟩ = some (.int .i64 f.size) := HE3.out.cell rfl
          have x2 : w3.cell? ⟨fb, 2, none⟩ = some (.slice la f.least.length lc) := HE3.out.cell rfl
          have x3 : w3.cell? ⟨fb, 3, none⟩ = some (.slice ma f.most.length mc) := HE3.out.cell rfl
          have x4 : w3.cell? ⟨fb, 4, none⟩ = some (.int .i64 f.ents) := HE3.out.cell rfl
          have x5 : w3.cell? ⟨fb, 5, none⟩ = some (.int .u64 f.mseq) := HE3.out.cell rfl
          obtain ⟨r, hr⟩ : ∃ r, fineB f = r := ⟨_, rfl⟩
          have HR := Lib.hid hr
          clear hr
          go_wp2_with fail
          clear x0 x1 x2 x3 x4 x5
          refine Calls.mono (fine_at _ _ f (.slice la f.least.length lc) (.slice ma f.most.length mc) _ (HVL.out.below HB3.out) (HVM.out.below HB3.out) HR.out) ?_
          rintro _ w4 ⟨rfl, hb⟩
          have HE4 : Hid (Blk w4 fb (filCells f (.slice la f.least.length lc) (.slice ma f.most.length mc)).toArray 42) := HE3.out.below hb HE3.out.lt
          have HS4 := Lib.hid (HS3.out.below hb)
          have HX4 : Hid (Blk w4 w.heap.size (verCells v (.slice (some ⟨bl, ol, none⟩) 5 ca)).toArray 25) := HX3.out.below hb HX3.out.lt
          have HB4 : Hid (Below w.heap.size w w4) := HB3.out.trans (hb.mono HB3.out.size)
          clear hb HE3 HS3 HX3 HB3
          cases r with
          | false =>
            have HFIN : Hid (chkW v = 2) := HBK.out fun h => by have h5 := fineB_yes (HMK.out.1 h).1; rw [HR.out] at h5; cases h5
            go_wp2_with fail
            go_ret
            exact ⟨ret_int HFIN.out.symm, HB4.out⟩
          | true =>
            have HFI := Lib.hid (fineB_iff.1 HR.out)
            have x0 : w4.cell? ⟨fb, 0, none⟩ = some (.int .u64 f.num) := HE4.out.cell rfl
            have x1 : w4.cell? ⟨w.heap.size, 1, none⟩ = some (.int .u64 v.next) := HX4.out.cell rfl
            have hlk := HS4.out.look HNU.out
            by_cases hin : f.num ∈ nums v.levels i k
            · have HFIN : Hid (chkW v = 2) := HBK.out fun h => (HMK.out.1 h).2.1 hin
              rw [decide_eq_true hin] at hlk
              clear hin
              go_wp2_with fail
              go_ret
              exact ⟨ret_int HFIN.out.symm, HB4.out⟩
            have HNI := Lib.hid hin
            rw [decide_eq_false hin] at hlk
            clear hin
            by_cases hnx : f.num < v.next
            case neg =>
              have g1 : v.next ≤ f.num := by omega
              have HFIN : Hid (chkW v = 2) := HBK.out fun h => hnx (HMK.out.1 h).2.2.1
              clear hnx
              go_wp2_with fail
              go_ret
              exact ⟨ret_int HFIN.out.symm, HB4.out⟩
            have HNX := Lib.hid hnx
            have g1 : ¬ v.next ≤ f.num := by omega
            clear hnx
            go_wp2_with (at_mapUpdate; refine wpList_set_put rfl _ _ _ rfl rfl f.num rfl rfl rfl HS4.out HNU.out (by omega) ?_; intro w6 hs6 hw6)
            clear x0 x1 hlk g1
            have HS6 : Hid (SetB w6 mb (c + (k + 1)) (nums v.levels i (k + 1))) := hs6.congr (by omega) (fun x => by rw [HNMk.out]; simp [or_comm])
            have HMX : Hid (w.heap.size < mb) := by show _ < _; rw [← HMB.out]; exact Nat.lt_succ_self _
            have HE6 : Hid (Blk w6 fb (filCells f (.slice la f.least.length lc) (.slice ma f.most.length mc)).toArray 42) := HE4.out.same (hw6.block _ HE4.out.lt HNE.out)
            have HX6 : Hid (Blk w6 w.heap.size (verCells v (.slice (some ⟨bl, ol, none⟩) 5 ca)).toArray 25) := HX4.out.same (hw6.block _ HX4.out.lt (fun e0 => by have := HMX.out; omega))
            have HB6 : Hid (Below w.heap.size w w6) := HB4.out.trans (hw6.below HB4.out.size (fun j hj => by rw [hj]; have := HMX.out; omega))
            clear hs6 hw6 HS4 HE4 HX4 HB4
            go_upto_region 15 with fail
            go_cut [102] from 70 to 101 (fun z wx => (∃ b : Bool, z = .bool b ∧ Hid (b = false ↔ (0 < k → behind i (fat (lat v.levels i) (k - 1)) f))) ∧ Hid (Below w6.heap.size w6 wx))
            case first =>
              have y0 : w6.cell? ⟨fb, 0, none⟩ = some (.int .u64 f.num) := HE6.out.cell rfl
              have y2 : w6.cell? ⟨fb, 2, none⟩ = some (.slice la f.least.length lc) := HE6.out.cell rfl
              by_cases hk0 : 0 < k
              · obtain ⟨k1, hk1⟩ : ∃ k1, k = k1 + 1 := ⟨k - 1, by omega⟩
                have hk2 : k - 1 = k1 := by omega
                obtain ⟨pl, pm, _, hpm, _, hpc⟩ := hcf2.out k1 (by rw [HLN.out]; omega)
                obtain ⟨p, hp⟩ : ∃ p, fat (lat v.levels i) k1 = p := ⟨_, rfl⟩
                rw [hp] at hpm hpc
                have HPP : Hid (fat (lat v.levels i) (k - 1) = p) := by show _ = _; rw [hk2, hp]
                obtain ⟨pa, pc, rfl⟩ := hpm.isSlice
                have hpc := hpc.keep HB6.out HBF.out
                obtain ⟨z0, z1, z2, z3, z4, z5⟩ := hpc
                have HPM := Lib.hid (hpm.below HB6.out)
                have t10 : IntKind.i64.wrap ((k : Int) - 1) = (k1 : Int) := by rw [wrap_small (by omega) (by omega)]; omega
                have t11 : IntKind.i64.wrap (k1 : Int) = (k1 : Int) := wrap_small (by omega) (by omega)
                have t12 : (k1 : Int) < (n : Int) := by omega
                have t13 : 0 ≤ (k1 : Int) := by omega
                have t14 : 0 < (k : Int) := by omega
                have HK0 := Lib.hid hk0
                clear z1 z2 z4 z5 hpm hp hk1 hk2
                by_cases hi0 : i = 0
                · have t16 : ((i : Int) == 0) = true := by simp; omega
                  have t17 : decide (0 < (i : Int)) = false := decide_eq_false (by omega)
                  have t18 : decide (0 < i) = false := decide_eq_false (by omega)
                  have HI0 := Lib.hid hi0
                  clear hi0
                  by_cases hge : f.num ≤ p.num
                  · have HIF : Hid (¬ (0 < k → behind i (fat (lat v.levels i) (k - 1)) f)) := fun h => by
                      have h5 := h HK0.out
                      rw [HPP.out] at h5
                      unfold behind at h5
                      rw [if_pos HI0.out] at h5
                      omega
                    go_wp2_with fail
                    go_quiet (fail)
                    all_goals
                      go_wp2_with fail
                      go_meet
                      exact ⟨⟨true, rfl, by show _ ↔ _; exact ⟨fun h => (by cases h), fun h => absurd h HIF.out⟩⟩, below_dn (Below.refl _ _) _⟩
                  · have hge' : decide (f.num ≤ p.num) = false := decide_eq_false hge
                    have HIF : Hid (0 < k → behind i (fat (lat v.levels i) (k - 1)) f) := fun _ => by
                      rw [HPP.out]
                      unfold behind
                      rw [if_pos HI0.out]
                      omega
                    go_wp2_with fail
                    go_quiet (fail)
                    all_goals
                      go_wp2_with fail
                      go_meet
                      exact ⟨⟨false, rfl, by show _ ↔ _; exact ⟨fun _ => HIF.out, fun _ => rfl⟩⟩, below_dn (Below.refl _ _) _⟩
                · have t16 : ((i : Int) == 0) = false := by simp; omega
                  have t17 : 0 < (i : Int) := by omega
                  have t18 : 0 < i := by omega
                  have HI0 := Lib.hid hi0
                  clear hi0
                  obtain ⟨cc, hcc⟩ : ∃ cc, Ent.bcmp p.most f.least = cc := ⟨_, rfl⟩
                  have HCC2 := Lib.hid hcc
                  have hkc : ∀ m, Calls Try.prog 73 #[.slice pa p.most.length pc, .slice la f.least.length lc] (w6.drewN m) fun e w' => e = .returned (.int .i64 cc) ∧ ∃ n, w' = (w6.drewN m).drewN n := fun m => quiet_same (bcompare_at _ _ _ _ _ _ _ (HPM.out.below (below_dn (Below.refl _ _) _)) ((HVL.out.below HB6.out).below (below_dn (Below.refl _ _) _)) HCC2.out)
                  have HKC := Lib.hid hkc
                  have HIF : Hid (decide (0 ≤ cc) = false ↔ (0 < k → behind i (fat (lat v.levels i) (k - 1)) f)) := by
                    show _ ↔ _
                    rw [HPP.out]
                    unfold behind
                    rw [if_neg HI0.out, HCC2.out, decide_eq_false_iff_not]
                    exact ⟨fun h _ => by omega, fun h => by have := h HK0.out; omega⟩
                  clear hcc hkc
                  go_wp2_with fail
                  go_quiet ((go_at_call 73; refine Calls.quiet_of (HKC.out _)))
                  all_goals
                    go_wp2_with fail
                    go_meet
                    exact ⟨⟨_, rfl, HIF.out⟩, below_dn (Below.refl _ _) _⟩
              · have t14 : decide (0 < (k : Int)) = false := decide_eq_false (by omega)
                have t15 : decide (0 < k) = false := decide_eq_false hk0
                have HK0 := Lib.hid hk0
                clear hk0
                go_wp2_with fail
                go_quiet (fail)
                all_goals
                  go_wp2_with fail
                  go_meet
                  exact ⟨⟨false, rfl, by show _ ↔ _; exact ⟨fun _ h => absurd h HK0.out, fun _ => rfl⟩⟩, below_dn (Below.refl _ _) _⟩
            case rest =>
              obtain ⟨⟨b, rfl, HBB⟩, HBc⟩ := hcut
              have HS7 := Lib.hid (HS6.out.below HBc.out)
              have HX7 : Hid (Blk wc w.heap.size (verCells v (.slice (some ⟨bl, ol, none⟩) 5 ca)).toArray 25) := HX6.out.below HBc.out HX6.out.lt
              have HB7 : Hid (Below w.heap.size w wc) := HB6.out.trans (HBc.out.mono HB6.out.size)
              clear HS6 HX6 HE6 HB6 HBc hcf2
              cases b with
              | true =>
                have HFIN : Hid (chkW v = 2) := HBK.out fun h => by have h5 := HBB.out.2 (HMK.out.1 h).2.2.2; cases h5
                go_wp2_with fail
                go_ret
                exact ⟨ret_int HFIN.out.symm, HB7.out⟩
              | false =>
                have HAN := Lib.hid (HOK.out (HMK.out.2 ⟨HFI.out, HNI.out, HNX.out, HBB.out.1 rfl⟩))
                clear HBB HOK HMK HBK
                go_wp2_with fail
                go_roundw
                · exact ⟨k + 1, by go_num, by omega, by go_num, HAN.out, HS7.out, HX7.out, HB7.out⟩
                · simp only [intOf]; omega
        · have t5 : ¬ (k : Int) < (n : Int) := by omega
          have hkn2 : k = n := by omega
          have HAN : Hid (AllTo v.next v.levels (i + 1) 0) := HCLO.out (by rw [← hkn2]; exact HATk.out)
          have HSN : Hid (SetB wr mb (cntTo v.levels (i + 1)) (nums v.levels (i + 1) 0)) := HSk.out.congr (by rw [HCN.out, HCC.out, hkn2]) (fun x => by rw [← HNC.out, hkn2])
          have HCE : Hid (((c + k : Nat) : Int) = (cntTo v.levels (i + 1) : Int)) := by show _ = _; rw [HCN.out, HCC.out, hkn2]
          rw [HCE.out]
          clear HSk HATk hkn2
          go_wp2_with fail
          go_roundw
          · exact ⟨i + 1, by go_num, by omega, rfl, HAN.out, HSN.out, HXk.out, HBk.out⟩
          · simp only [intOf]; omega
    · have t1 : ¬ (i : Int) < 5 := by omega
      have hi5 : i = 5 := by omega
      have HG : Hid (Good v) := by
        have h5 := HAT.out
        rw [hi5, ← HM.out] at h5
        exact h5
      have hcn : cntTo v.levels i = cntTo v.levels v.levels.length := by rw [hi5, HM.out]
      rw [hcn]
      obtain ⟨c, hc⟩ : ∃ c, cntTo v.levels v.levels.length = c := ⟨_, rfl⟩
      have HCC := Lib.hid hc
      rw [hc]
      have hcb : c ≤ 1000000 := by rw [← hc]; exact HFEW.out
      clear hcn hc hi5 HAT HS
      by_cases hlg : 10000 < c
      · have t2 : (10000 : Int) < (c : Int) := by omega
        have HFIN : Hid (chkW v = 3) := chkW_long HH.out HG.out (.inl (by rw [HCC.out]; exact hlg))
        clear hlg
        go_wp2_with fail
        go_ret
        exact ⟨ret_int HFIN.out.symm, HB.out⟩
      · have t2 : decide ((10000 : Int) < (c : Int)) = false := decide_eq_false (by omega)
        have HLG := Lib.hid hlg
        have HLC := Lib.hid (length_any _ v (.slice xa 5 ca) wr (HA.out.below HB.out) HWF.out (by rw [HCC.out]; omega) (by rw [HM.out]; omega) HG.out.fine)
        unfold verCells at HLC
        have x0 : wr.cell? ⟨w.heap.size, 0, none⟩ = some (.slice xa 5 ca) := HX.out.cell rfl
        have x1 : wr.cell? ⟨w.heap.size, 1, none⟩ = some (.int .u64 v.next) := HX.out.cell rfl
        have x2 : wr.cell? ⟨w.heap.size, 2, none⟩ = some (.int .u64 v.seq) := HX.out.cell rfl
        have x3 : wr.cell? ⟨w.heap.size, 3, none⟩ = some (.int .u64 v.log) := HX.out.cell rfl
        clear hlg
        go_wp2_with fail
        clear x0 x1 x2 x3
        refine Calls.mono HLC.out ?_
        rintro _ w5 ⟨rfl, hb⟩
        have HB5 : Hid (Below w.heap.size w w5) := HB.out.trans (hb.mono HB.out.size)
        clear hb HLC
        by_cases hl2 : 1048576 < lenV v
        · have t4 : (1048576 : Int) < (lenV v : Int) := by omega
          have HFIN : Hid (chkW v = 3) := chkW_long HH.out HG.out (.inr hl2)
          clear hl2
          go_wp2_with fail
          go_ret
          exact ⟨ret_int HFIN.out.symm, HB5.out⟩
        · have t4 : ¬ (1048576 : Int) < (lenV v : Int) := by omega
          have HFIN : Hid (chkW v = 0) := chkW_ok HH.out HG.out (by rw [HCC.out]; exact fun e => e.elim HLG.out hl2)
          clear hl2
          go_wp2_with fail
          go_ret
          exact ⟨ret_int HFIN.out.symm, HB5.out⟩
end Go.Proofs.Ytkcohhldmhdcfaa

namespace Go.Proofs.Ytkcohhldmhdcfaa
open Go.RowKit

/-- Does a file overlap keys? -/
def lapB (least most : List UInt8) (f : Fil) : Bool := decide (0 ≤ Ent.bcmp f.most least) && (decide (most.length = 0) || decide (Ent.bcmp f.least most ≤ 0))

set_option maxRecDepth 100000 in
set_option maxHeartbeats 4000000 in
theorem laps_any (F G L M : Nat → Prop) (f : Fil) (vl vm : Value) (least most : List UInt8) (ql qm : Value) (w : World) (hl : Bytes F w vl f.least) (hm : Bytes G w vm f.most) (h1 : Bytes L w ql least) (h2 : Bytes M w qm most) :
    Calls Try.prog 77 #[.agg (filCells f vl vm).toArray, ql, qm] w fun e w' => e = .returned (.bool (lapB least most f)) ∧ Below w.heap.size w w' := by
  obtain ⟨la, lc, rfl⟩ := hl.isSlice
  obtain ⟨ma, mc, rfl⟩ := hm.isSlice
  obtain ⟨pa, pc, rfl⟩ := h1.isSlice
  obtain ⟨qa, qc, rfl⟩ := h2.isSlice
  have HL := Lib.hid hl
  have HM := Lib.hid hm
  have HP := Lib.hid h1
  have HQ := Lib.hid h2
  clear hl hm h1 h2
  obtain ⟨c1, hc1⟩ : ∃ c, Ent.bcmp f.most least = c := ⟨_, rfl⟩
  obtain ⟨c2, hc2⟩ : ∃ c, Ent.bcmp f.least most = c := ⟨_, rfl⟩
  have HC1 := Lib.hid hc1
  have HC2 := Lib.hid hc2
  have HR : Hid (lapB least most f = (decide (0 ≤ c1) && (decide (most.length = 0) || decide (c2 ≤ 0)))) := by show _ = _; unfold lapB; rw [hc1, hc2]
  clear hc1 hc2
  unfold filCells
  go_enter Try.func77, Try.ntmps77
  go_wp2_with fail
  refine Calls.mono (bcompare_at _ _ _ _ _ _ _ (HM.out.below ((Below.refl _ _).alloc (Nat.le_refl _) _)) (HP.out.below ((Below.refl _ _).alloc (Nat.le_refl _) _)) HC1.out) ?_
  rintro _ w1 ⟨rfl, rfl⟩
  by_cases h1 : 0 ≤ c1
  · by_cases h2 : most.length = 0
    · have HF : Hid (lapB least most f = true) := by show _ = _; rw [HR.out]; simp [h1, h2]
      obtain ⟨q, hq⟩ : ∃ q, most.length = q := ⟨_, rfl⟩
      rw [hq] at h2
      rw [hq]
      have g2 : ((q : Int) == 0) = true := by simp; omega
      clear h2 hq HQ
      go_wp2_with fail
      go_ret
      exact ⟨ret_bool HF.out.symm, (Below.refl _ _).alloc (Nat.le_refl _) _⟩
    · have HF : Hid (lapB least most f = decide (c2 ≤ 0)) := by
        show _ = _
        rw [HR.out, decide_eq_false h2, decide_eq_true h1, Bool.true_and, Bool.false_or]
      obtain ⟨q, hq⟩ : ∃ q, most.length = q := ⟨_, rfl⟩
      rw [hq] at h2 HQ
      rw [hq]
      have g2 : ((q : Int) == 0) = false := by simp; omega
      clear h2 hq
      go_wp2_with fail
      refine Calls.mono (bcompare_at _ _ _ _ _ _ _ (HL.out.below ((Below.refl _ _).alloc (Nat.le_refl _) _)) (HQ.out.below ((Below.refl _ _).alloc (Nat.le_refl _) _)) HC2.out) ?_
      rintro _ w1 ⟨rfl, rfl⟩
      go_wp2_with fail
      go_ret
      exact ⟨ret_bool HF.out.symm, (Below.refl _ _).alloc (Nat.le_refl _) _⟩
  · have g1 : decide (0 ≤ c1) = false := decide_eq_false h1
    have HF : Hid (lapB least most f = false) := by show _ = _; rw [HR.out]; simp [g1]
    go_wp2_with fail
    go_ret
    exact ⟨ret_bool HF.out.symm, (Below.refl _ _).alloc (Nat.le_refl _) _⟩
theorem laps_at {r : Bool} (F G L M : Nat → Prop) (f : Fil) (vl vm : Value) (least most : List UInt8) (ql qm : Value) (w : World) (hl : Bytes F w vl f.least) (hm : Bytes G w vm f.most) (h1 : Bytes L w ql least) (h2 : Bytes M w qm most) (hr : lapB least most f = r) :
    Calls Try.prog 77 #[.agg (filCells f vl vm).toArray, ql, qm] w fun e w' => e = .returned (.bool r) ∧ Below w.heap.size w w' := by
  subst hr; exact laps_any F G L M f vl vm least most ql qm w hl hm h1 h2

theorem chkW_good {v : Ver} (h : chkW v = 0) : Hdr v ∧ Good v ∧ cntTo v.levels v.levels.length ≤ 10000 := by
  unfold chkW at h
  split at h
  · cases h
  · rename_i h1
    split at h
    · cases h
    · rename_i h2
      obtain ⟨h3, h4⟩ := Classical.not_not.1 h1
      exact ⟨h3, h4, by omega⟩
theorem cnt_mono {ls : List (List Fil)} (d j : Nat) : cntTo ls j ≤ cntTo ls (j + d) := by
  induction d with
  | zero => exact Nat.le_refl _
  | succ d ih => exact Nat.le_trans ih (Nat.le_add_right _ _)
theorem lev_le_cnt {ls : List (List Fil)} {i : Nat} (h : i < ls.length) : (lat ls i).length ≤ cntTo ls ls.length := by
  have h1 := cnt_mono (ls := ls) (ls.length - (i + 1)) (i + 1)
  rw [show i + 1 + (ls.length - (i + 1)) = ls.length by omega] at h1
  exact Nat.le_trans (Nat.le_add_left _ _) h1

end Go.Proofs.Ytkcohhldmhdcfaa
