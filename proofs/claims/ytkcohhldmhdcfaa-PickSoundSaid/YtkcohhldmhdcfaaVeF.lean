/- Chapter 12: version.length. -/
import Derived.Test.YtkcohhldmhdcfaaVeE
namespace Go.Proofs.Ytkcohhldmhdcfaa
open Go.RowKit

def verCells (v : Ver) (lv : Value) : List Value := [lv, .int .u64 v.next, .int .u64 v.seq, .int .u64 v.log]
def Ver.wf (v : Ver) : Prop := u64In v.next ∧ u64In v.seq ∧ u64In v.log
/-- The bytes that a file of level i has in an edit. -/
def filLen (i : Nat) (f : Fil) : Nat := sizes [(i : Int), f.num, f.size, f.ents, f.mseq, (f.least.length : Int), (f.most.length : Int)] + (f.least.length + f.most.length)
def levTo (i : Nat) (l : List Fil) (k : Nat) : Nat := ((l.take k).map (filLen i)).sum
def levsTo (ls : List (List Fil)) : Nat → Nat
  | 0 => 0
  | i + 1 => levsTo ls i + levTo i (lat ls i) (lat ls i).length
def cntTo (ls : List (List Fil)) : Nat → Nat
  | 0 => 0
  | i + 1 => cntTo ls i + (lat ls i).length
def lenV (v : Ver) : Nat := 1 + levsTo v.levels v.levels.length + sizes [v.next, v.seq, v.log, (cntTo v.levels v.levels.length : Int)]
theorem levTo_succ {i : Nat} {l : List Fil} {k : Nat} (h : k < l.length) : levTo i l (k + 1) = levTo i l k + filLen i (fat l k) := by
  unfold levTo
  rw [List.take_succ_eq_append_getElem h, List.map_append, List.sum_append, fat_eq h]
  simp

theorem wrapU {x : Int} (h : u64In x) : IntKind.u64.wrap x = x := by
  unfold u64In at h
  simp [IntKind.wrap, IntKind.signed, IntKind.bits]
  omega
theorem Rw.fwf {F : Nat → Prop} {w : World} {v : Value} {fs : List Fil} (h : Rw filK F w v fs) : ∀ f ∈ fs, f.wf := by
  intro f hf
  obtain ⟨k, hk, rfl⟩ := List.mem_iff_getElem.1 hf
  obtain ⟨_, _, _, _, _, _, hc⟩ := fils_at h (by omega)
  obtain ⟨_, _, _, _, hw, _⟩ := hc k hk
  rw [fat_eq hk]; exact hw
theorem Rw.lwf {F : Nat → Prop} {w : World} {v : Value} {ls : List (List Fil)} (h : Rw (rowK filK) F w v ls) : ∀ i, i < ls.length → ∀ f ∈ lat ls i, f.wf := by
  intro i hi
  obtain ⟨_, _, _, _, _, _, hc⟩ := levs_at h (by omega)
  obtain ⟨_, hu, _⟩ := hc i hi
  exact hu.fwf
def fileNums (i : Nat) (f : Fil) : List Int := [(i : Int), f.num, f.size, f.ents, f.mseq, (f.least.length : Int), (f.most.length : Int)]
theorem keyOk_len {k : List UInt8} (h : keyOk k = true) : 1 ≤ k.length ∧ k.length ≤ 4096 := by simpa [keyOk] using h
theorem fileNums_in {i : Nat} {f : Fil} (hi : i ≤ 10) (hw : f.wf) (hf : f.Fine) : ∀ x ∈ fileNums i f, u64In x := by
  have h1 := keyOk_len hf.least
  have h2 := keyOk_len hf.most
  have h3 := hf.s0
  have h4 := hf.s1
  have h5 := hf.e0
  have h6 := hf.e1
  intro x hx
  simp only [fileNums, List.mem_cons, List.not_mem_nil, or_false] at hx
  rcases hx with rfl | rfl | rfl | rfl | rfl | rfl | rfl
  · constructor <;> omega
  · exact hw.1
  · constructor <;> omega
  · constructor <;> omega
  · exact hw.2.2.2
  · constructor <;> omega
  · constructor <;> omega
theorem sizes_le {xs : List Int} (h : ∀ x ∈ xs, u64In x) : sizes xs ≤ 10 * xs.length := sizesTo_le h _ (Nat.le_refl _)
theorem filLen_le {i : Nat} {f : Fil} (hi : i ≤ 10) (hw : f.wf) (hf : f.Fine) : filLen i f ≤ 10000 := by
  have h1 := keyOk_len hf.least
  have h2 := keyOk_len hf.most
  have h3 : sizes (fileNums i f) ≤ 70 := sizes_le (fileNums_in hi hw hf)
  have h4 : filLen i f = sizes (fileNums i f) + (f.least.length + f.most.length) := rfl
  omega
theorem levTo_le {i : Nat} {l : List Fil} (hi : i ≤ 10) (hw : ∀ f ∈ l, f.wf) (hf : ∀ f ∈ l, f.Fine) : ∀ k, k ≤ l.length → levTo i l k ≤ k * 10000
  | 0, _ => by simp [levTo]
  | k + 1, hk => by
    have h1 := levTo_le hi hw hf k (by omega)
    have h2 := filLen_le hi (hw _ (fat_mem (show k < l.length by omega))) (hf _ (fat_mem (show k < l.length by omega)))
    rw [levTo_succ (by omega)]
    omega
theorem levsTo_le {ls : List (List Fil)} (hm : ls.length ≤ 10) (hw : ∀ i, i < ls.length → ∀ f ∈ lat ls i, f.wf) (hf : ∀ i, i < ls.length → ∀ f ∈ lat ls i, f.Fine) : ∀ i, i ≤ ls.length → levsTo ls i ≤ cntTo ls i * 10000
  | 0, _ => Nat.zero_le _
  | i + 1, hi => by
    have h1 := levsTo_le hm hw hf i (by omega)
    have h2 := levTo_le (i := i) (by omega) (hw i (by omega)) (hf i (by omega)) _ (Nat.le_refl _)
    show levsTo ls i + levTo i (lat ls i) (lat ls i).length ≤ (cntTo ls i + (lat ls i).length) * 10000
    rw [Nat.add_mul]
    omega

set_option maxRecDepth 100000 in
set_option maxHeartbeats 8000000 in
theorem length_any (F : Nat → Prop) (v : Ver) (lv : Value) (w : World) (h : Rw (rowK filK) F w lv v.levels) (hw : v.wf) (hc : cntTo v.levels v.levels.length ≤ 10000) (hm : v.levels.length ≤ 10) (hf : ∀ i, i < v.levels.length → ∀ f ∈ lat v.levels i, f.Fine) :
    Calls Try.prog 74 #[.agg (verCells v lv).toArray] w fun e w' => e = .returned (.int .i64 (lenV v : Int)) ∧ Below w.heap.size w w' := by
  obtain ⟨xa, ca, rfl⟩ := h.isSlice
  have HA : Hid (Rw (rowK filK) (· < w.heap.size) w (.slice xa v.levels.length ca) v.levels) := h.mono fun k hk _ => hk
  have HWF := Lib.hid hw
  have HF := Lib.hid hf
  have HCT := Lib.hid hc
  have HWL := Lib.hid h.lwf
  have HLS := Lib.hid (levsTo_le hm h.lwf hf)
  clear h hw hf hc
  obtain ⟨m, hm1⟩ : ∃ m, v.levels.length = m := ⟨_, rfl⟩
  have HM := Lib.hid hm1
  rw [hm1] at HA hm
  unfold verCells
  rw [hm1]
  clear hm1
  go_enter Try.func74, Try.ntmps74
  go_upto_region 2 with fail
  refine wp_gen fun w1 hw1 => ?_
  have HX1 : Hid (Blk w1 w.heap.size (verCells v (.slice xa m ca)).toArray 25) := by rw [hw1]; exact (Blk.at_new rfl rfl).alloc _
  have HN1 : Hid (Blk w1 (w.heap.size + 1) #[.int .i64 ((1 + levsTo v.levels 0 : Nat) : Int)] 3) := by rw [hw1]; exact Blk.at_new (by simp) rfl
  have HW1 : Hid (Below w.heap.size w w1) := by rw [hw1]; exact below_two _ _ _
  clear hw1
  have x0 : w1.cell? ⟨w.heap.size, 0, none⟩ = some (.slice xa m ca) := HX1.out.cell rfl
  have HXL : Hid (w.heap.size < w1.heap.size ∧ w.heap.size + 1 < w1.heap.size) := ⟨HX1.out.lt, HN1.out.lt⟩
  generalize hxb : w.heap.size + 1 = nb at *
  go_wp2_with fail
  clear x0
  go_loopw [4, 14] (fun cv iv wr => ∃ (i : Nat), iv = .int .i64 (i : Int) ∧ i ≤ m ∧ cv = .int .i64 (cntTo v.levels i : Int) ∧ Hid (Blk wr nb #[.int .i64 ((1 + levsTo v.levels i : Nat) : Int)] 3) ∧ Hid (Blk wr w.heap.size (verCells v (.slice xa m ca)).toArray 25) ∧ Hid (Below w.heap.size w wr)) (fun _ iv _ => m - (intOf iv).toNat)
  case atStart => exact ⟨0, rfl, by omega, rfl, HN1.out, HX1.out, HW1.out⟩
  case round =>
    obtain ⟨i, rfl, hi, rfl, HN, HX, HB⟩ := hrel
    clear HN1 HX1 HW1
    by_cases hlt : i < m
    · have t1 : (i : Int) < (m : Int) := by omega
      have t3 : 0 ≤ (i : Int) := by omega
      have hil : i < v.levels.length := by rw [HM.out]; exact hlt
      obtain ⟨bl, ol, capl, el, hbl, _, hcl⟩ := levs_at HA.out (by omega)
      obtain ⟨u, hu, c0⟩ := hcl i hil
      injection el with e1 e2 e3
      subst e1 e3
      clear e2 hcl
      have c0 := (HB.out.cell (p := ⟨bl, ol + i, none⟩) hbl).trans c0
      have HFI := Lib.hid (HF.out i hil)
      have HWI := Lib.hid (HWL.out i hil)
      have hlv : levsTo v.levels (i + 1) = levsTo v.levels i + levTo i (lat v.levels i) (lat v.levels i).length := rfl
      have hct : cntTo v.levels (i + 1) = cntTo v.levels i + (lat v.levels i).length := rfl
      obtain ⟨l, hl⟩ : ∃ l, lat v.levels i = l := ⟨_, rfl⟩
      rw [hl] at hu HFI HWI hlv hct
      have HTL := Lib.hid (levTo_le (i := i) (by omega) HWI.out HFI.out)
      obtain ⟨ua, uc, rfl⟩ := hu.isSlice
      obtain ⟨n, hn⟩ : ∃ n, l.length = n := ⟨_, rfl⟩
      have HLN := Lib.hid hn
      rw [hn] at c0 hu hct
      have HLV := Lib.hid hlv
      have HCN := Lib.hid hct
      have HU := Lib.hid hu
      have HLE : Hid (cntTo v.levels i + n ≤ 10000) := by
        have h1 : ∀ j, j ≤ m → cntTo v.levels j ≤ 10000 := fun j hj => by
          have h2 : ∀ d, cntTo v.levels j ≤ cntTo v.levels (j + d) := fun d => by
            induction d with
            | zero => exact Nat.le_refl _
            | succ d ih => exact Nat.le_trans ih (Nat.le_add_right _ _)
          have h3 := h2 (m - j)
          rw [show j + (m - j) = m by omega, ← HM.out] at h3
          exact Nat.le_trans h3 HCT.out
        have := h1 (i + 1) (by omega)
        rw [hct] at this
        exact this
      have HLL : Hid (levsTo v.levels i ≤ cntTo v.levels i * 10000) := HLS.out i (by omega)
      obtain ⟨c, hc⟩ : ∃ c, cntTo v.levels i = c := ⟨_, rfl⟩
      have HCC := Lib.hid hc
      rw [hc] at HLE HLL
      rw [hc]
      obtain ⟨d, hd⟩ : ∃ d, 1 + levsTo v.levels i = d := ⟨_, rfl⟩
      have HDD := Lib.hid hd
      rw [hd] at HN
      have hce := HLE.out
      clear hl hu hn hil hlv hct hc hd
      go_wp2_with fail
      clear c0
      go_loopw [4, 21] (fun cv kv wr => ∃ (k : Nat), kv = .int .i64 (k : Int) ∧ k ≤ n ∧ cv = .int .i64 ((c + k : Nat) : Int) ∧ Hid (Blk wr nb #[.int .i64 ((d + levTo i l k : Nat) : Int)] 3) ∧ Hid (Blk wr w.heap.size (verCells v (.slice (some ⟨bl, ol, none⟩) m ca)).toArray 25) ∧ Hid (Below w.heap.size w wr)) (fun _ kv _ => n - (intOf kv).toNat)
      case atStart => exact ⟨0, rfl, by omega, rfl, HN.out, HX.out, HB.out⟩
      case round =>
        obtain ⟨k, rfl, hk, rfl, HNk, HXk, HBk⟩ := hrel
        clear HN HX HB
        by_cases hkn : k < n
        · have t5 : (k : Int) < (n : Int) := by omega
          have t6 : 0 ≤ (k : Int) := by omega
          have hkl : k < l.length := by rw [HLN.out]; exact hkn
          obtain ⟨bf, of, capf, ef, hbf, _, hcf⟩ := fils_at HU.out (by omega)
          obtain ⟨vl, vm, hvl, hvm, hwf, hc6⟩ := hcf k hkl
          injection ef with e1 e2 e3
          subst e1 e3
          clear e2 hcf
          have HFN := Lib.hid (HFI.out _ (fat_mem hkl))
          have HLT := Lib.hid (levTo_succ (i := i) hkl)
          obtain ⟨f, hf⟩ : ∃ f, fat l k = f := ⟨_, rfl⟩
          rw [hf] at hvl hvm hwf hc6 HFN HLT
          obtain ⟨la, lc, rfl⟩ := hvl.isSlice
          obtain ⟨ma, mc, rfl⟩ := hvm.isSlice
          have HWFf := Lib.hid hwf
          have hc6 := hc6.keep HBk.out hbf
          obtain ⟨c0, c1, c2, c3, c4, c5⟩ := hc6
          obtain ⟨e, he⟩ : ∃ e, d + levTo i l k = e := ⟨_, rfl⟩
          have HEE := Lib.hid he
          rw [he] at HNk
          clear hvl hvm hwf hf hkl he
          go_upto_region 10 with fail
          clear c0 c1 c2 c3 c4 c5
          refine wp_gen fun w3 hw3 => ?_
          have HE3 : Hid (Blk w3 wr.heap.size (filCells f (.slice la f.least.length lc) (.slice ma f.most.length mc)).toArray 42) := by rw [hw3]; exact Blk.at_new rfl rfl
          have HW3 : Hid (Below wr.heap.size wr w3) := by rw [hw3]; exact (Below.refl _ _).alloc (Nat.le_refl _) _
          clear hw3
          have x0 : w3.cell? ⟨wr.heap.size, 0, none⟩ = some (.int .u64 f.num) := HE3.out.cell rfl
          have x1 : w3.cell? ⟨wr.heap.size, 1, none⟩ = some (.int .i64 f.size) := HE3.out.cell rfl
          have x2 : w3.cell? ⟨wr.heap.size, 2, none⟩ = some (.slice la f.least.length lc) := HE3.out.cell rfl
          have x3 : w3.cell? ⟨wr.heap.size, 3, none⟩ = some (.slice ma f.most.length mc) := HE3.out.cell rfl
          have x4 : w3.cell? ⟨wr.heap.size, 4, none⟩ = some (.int .i64 f.ents) := HE3.out.cell rfl
          have x5 : w3.cell? ⟨wr.heap.size, 5, none⟩ = some (.int .u64 f.mseq) := HE3.out.cell rfl
          go_wp2_with fail
          refine calls_gen fun w4 hw4 => ?_
          clear x0 x1 x2 x3 x4 x5
          have hin := fileNums_in (i := i) (by omega) HWFf.out HFN.out
          have HIN := Lib.hid hin
          have e1 : IntKind.u64.wrap f.size = f.size := wrapU (hin _ (by simp [fileNums]))
          have e2 : IntKind.u64.wrap f.ents = f.ents := wrapU (hin _ (by simp [fileNums]))
          have e3 : IntKind.u64.wrap (f.least.length : Int) = (f.least.length : Int) := wrapU (hin _ (by simp [fileNums]))
          have e4 : IntKind.u64.wrap (f.most.length : Int) = (f.most.length : Int) := wrapU (hin _ (by simp [fileNums]))
          have HW4 : Hid (Below w3.heap.size w3 w4) := by rw [hw4]; exact (Below.refl _ _).alloc (Nat.le_refl _) _
          have HR4 : Hid (Rw u64K (fun j => j = w3.heap.size ∨ False) w4 (.slice (some ⟨w3.heap.size, 0, none⟩) 7 7) (fileNums i f)) := by
            rw [hw4, e1, e2, e3, e4]
            exact rw_lit (K := u64K) (F := fun _ => False) (n := 7) (xs := fileNums i f) (Blk.at_new rfl rfl) ⟨rfl, rfl, rfl, rfl, rfl, rfl, rfl, rfl⟩ rfl (by decide)
          clear hw4 e1 e2 e3 e4 hin
          have HN4 : Hid (Blk w4 nb #[.int .i64 (e : Int)] 3) := (HNk.out.below HW3.out HNk.out.lt).below HW4.out (Nat.lt_of_lt_of_le HNk.out.lt HW3.out.size)
          have HNL : Hid (nb < wr.heap.size) := HNk.out.lt
          have HE4 : Hid (Blk w4 wr.heap.size (filCells f (.slice la f.least.length lc) (.slice ma f.most.length mc)).toArray 42) := HE3.out.below HW4.out HE3.out.lt
          have HX4 : Hid (Blk w4 w.heap.size (verCells v (.slice (some ⟨bl, ol, none⟩) m ca)).toArray 25) := (HXk.out.below HW3.out HXk.out.lt).below HW4.out (Nat.lt_of_lt_of_le HXk.out.lt HW3.out.size)
          have HB4 : Hid (Below w.heap.size w w4) := (HBk.out.trans (HW3.out.mono HBk.out.size)).trans (HW4.out.mono (Nat.le_trans HBk.out.size HW3.out.size))
          have hel : e ≤ 200000000 := by
            have h1 := HTL.out k (by rw [HLN.out]; omega)
            have h2 := HLL.out
            have h3 := HDD.out
            have h4 := HEE.out
            have h5 := HCC.out
            omega
          have HWS : Hid (wr.heap.size ≤ w3.heap.size) := HW3.out.size
          have HWB : Hid (w.heap.size ≤ wr.heap.size ∧ w.heap.size < nb) := ⟨HBk.out.size, by show _ < _; rw [← hxb]; exact Nat.lt_succ_self _⟩
          clear HNk HXk HBk HE3 HW3 HW4
          refine Calls.mono (count_any _ _ (fileNums i f) nb e _ HR4.out (fun j hj e0 => by have := HNL.out; have := HWS.out; rcases hj with hj | hj; omega; exact hj) HIN.out HN4.out (by show 7 ≤ 100; decide) (by omega)) ?_
          rintro _ w5 ⟨rfl, hw5, hn5⟩
          obtain ⟨g, hg⟩ : ∃ g, e + sizes (fileNums i f) = g := ⟨_, rfl⟩
          have hgl : g ≤ 200000100 := by
            have h1 := sizes_le HIN.out
            have h2 : (fileNums i f).length = 7 := rfl
            omega
          rw [hg] at hn5
          have HGG := Lib.hid hg
          have HN5 := Lib.hid hn5
          have HE5 : Hid (Blk w5 wr.heap.size (filCells f (.slice la f.least.length lc) (.slice ma f.most.length mc)).toArray 42) := HE4.out.same (hw5.block _ HE4.out.lt (fun e0 => by have := HNL.out; omega))
          have HX5 : Hid (Blk w5 w.heap.size (verCells v (.slice (some ⟨bl, ol, none⟩) m ca)).toArray 25) := HX4.out.same (hw5.block _ HX4.out.lt (fun e0 => by have := HWB.out.2; omega))
          have HB5 : Hid (Below w.heap.size w w5) := HB4.out.trans (hw5.below HB4.out.size (fun j hj => by rw [hj]; have := HWB.out.2; omega))
          have hkl1 := keyOk_len HFN.out.least
          have hkl2 := keyOk_len HFN.out.most
          clear hw5 hn5 hg HE4 HX4 HB4 HN4 HR4 HIN
          have x0 : w5.cell? ⟨nb, 0, none⟩ = some (.int .i64 (g : Int)) := HN5.out.cell rfl
          have x1 : w5.frozen? ⟨nb, 0, none⟩ = false := HN5.out.free 0
          have x2 : w5.cell? ⟨wr.heap.size, 2, none⟩ = some (.slice la f.least.length lc) := HE5.out.cell rfl
          have x3 : w5.cell? ⟨wr.heap.size, 3, none⟩ = some (.slice ma f.most.length mc) := HE5.out.cell rfl
          have HFL : Hid (filLen i f = sizes (fileNums i f) + (f.least.length + f.most.length)) := rfl
          generalize f.least.length = ll at *
          generalize f.most.length = ml at *
          go_upto_region 12 with fail
          refine wp_gen fun w6 hw6 => ?_
          have HN6 : Hid (Blk w6 nb #[.int .i64 ((d + levTo i l (k + 1) : Nat) : Int)] 3) := by
            rw [hw6]
            have h5 := HN5.out.set 0 (.int .i64 ((g : Int) + ((ll : Int) + (ml : Int))))
            rw [show ((d + levTo i l (k + 1) : Nat) : Int) = (g : Int) + ((ll : Int) + (ml : Int)) by rw [HLT.out, HFL.out]; have := HEE.out; have := HGG.out; omega]
            exact h5
          have HX6 : Hid (Blk w6 w.heap.size (verCells v (.slice (some ⟨bl, ol, none⟩) m ca)).toArray 25) := by rw [hw6]; exact HX5.out.set_other _ _ (by show nb ≠ _; have := HWB.out.2; omega)
          have HB6 : Hid (Below w.heap.size w w6) := by rw [hw6]; exact HB5.out.setCell (by show _ ≤ nb; have := HWB.out.2; omega) _
          clear hw6 HN5 HX5 HB5 HE5 x0 x1 x2 x3 HGG HEE HLT HFL
          go_wp2_with fail
          go_roundw
          · exact ⟨k + 1, by go_num, by omega, by go_num, HN6.out, HX6.out, HB6.out⟩
          · simp only [intOf]; omega
        · have t5 : ¬ (k : Int) < (n : Int) := by omega
          have hkn2 : k = n := by omega
          have HNN : Hid (Blk wr nb #[.int .i64 ((1 + levsTo v.levels (i + 1) : Nat) : Int)] 3) := by
            rw [HLV.out, HLN.out, ← Nat.add_assoc, HDD.out, ← hkn2]
            exact HNk.out
          have HCE : Hid (((c + k : Nat) : Int) = (cntTo v.levels (i + 1) : Int)) := by show _ = _; rw [HCN.out, HCC.out, hkn2]
          rw [HCE.out]
          clear HNk hkn2
          go_wp2_with fail
          go_roundw
          · exact ⟨i + 1, by go_num, by omega, rfl, HNN.out, HXk.out, HBk.out⟩
          · simp only [intOf]; omega
    · have t1 : ¬ (i : Int) < (m : Int) := by omega
      have him : i = m := by omega
      subst him
      have hcl : cntTo v.levels i ≤ 10000 := by have := HCT.out; rw [HM.out] at this; exact this
      have hdl : 1 + levsTo v.levels i ≤ 100000001 := by have := HLS.out i (by rw [HM.out]; exact Nat.le_refl _); omega
      obtain ⟨c, hc⟩ : ∃ c, cntTo v.levels i = c := ⟨_, rfl⟩
      have HCC := Lib.hid hc
      obtain ⟨d, hd⟩ : ∃ d, 1 + levsTo v.levels i = d := ⟨_, rfl⟩
      have HDD := Lib.hid hd
      rw [hc] at hcl
      rw [hd] at hdl HN
      rw [hc]
      clear hc hd
      have x1 : wr.cell? ⟨w.heap.size, 1, none⟩ = some (.int .u64 v.next) := HX.out.cell rfl
      have x2 : wr.cell? ⟨w.heap.size, 2, none⟩ = some (.int .u64 v.seq) := HX.out.cell rfl
      have x3 : wr.cell? ⟨w.heap.size, 3, none⟩ = some (.int .u64 v.log) := HX.out.cell rfl
      go_wp2_with fail
      refine calls_gen fun w4 hw4 => ?_
      clear x1 x2 x3
      have HIN : Hid (∀ x ∈ [v.next, v.seq, v.log, (c : Int)], u64In x) := by
        intro x hx
        simp only [List.mem_cons, List.not_mem_nil, or_false] at hx
        rcases hx with rfl | rfl | rfl | rfl
        · exact HWF.out.1
        · exact HWF.out.2.1
        · exact HWF.out.2.2
        · constructor <;> omega
      have e1 : IntKind.u64.wrap (c : Int) = (c : Int) := wrapU (by constructor <;> omega)
      have HW4 : Hid (Below wr.heap.size wr w4) := by rw [hw4]; exact (Below.refl _ _).alloc (Nat.le_refl _) _
      have HR4 : Hid (Rw u64K (fun j => j = wr.heap.size ∨ False) w4 (.slice (some ⟨wr.heap.size, 0, none⟩) 4 4) [v.next, v.seq, v.log, (c : Int)]) := by
        rw [hw4]
        try rw [e1]
        exact rw_lit (K := u64K) (F := fun _ => False) (n := 4) (xs := [v.next, v.seq, v.log, (c : Int)]) (Blk.at_new rfl rfl) ⟨rfl, rfl, rfl, rfl, rfl⟩ rfl (by decide)
      have HN4 : Hid (Blk w4 nb #[.int .i64 (d : Int)] 3) := HN.out.below HW4.out HN.out.lt
      have HNL : Hid (nb < wr.heap.size ∧ w.heap.size < nb) := ⟨HN.out.lt, by show _ < _; rw [← hxb]; exact Nat.lt_succ_self _⟩
      have HB4 : Hid (Below w.heap.size w w4) := HB.out.trans (HW4.out.mono HB.out.size)
      clear hw4 e1 HN HX HB HW4
      refine Calls.mono (count_any _ _ [v.next, v.seq, v.log, (c : Int)] nb d _ HR4.out (fun j hj e0 => by have := HNL.out; rcases hj with hj | hj; omega; exact hj) HIN.out HN4.out (by show 4 ≤ 100; decide) (by omega)) ?_
      rintro _ w5 ⟨rfl, hw5, hn5⟩
      have HB5 : Hid (Below w.heap.size w w5) := HB4.out.trans (hw5.below HB4.out.size (fun j hj => by rw [hj]; have := HNL.out.2; omega))
      have HRES : Hid (d + sizes [v.next, v.seq, v.log, (c : Int)] = lenV v) := by show _ = _; unfold lenV; rw [HM.out, HDD.out, HCC.out]
      rw [HRES.out] at hn5
      have x0 := hn5.cell (i := 0) rfl
      clear hw5 hn5 HB4 HN4 HR4 HRES HIN
      go_wp2_with fail
      go_ret
      exact ⟨rfl, HB5.out⟩
end Go.Proofs.Ytkcohhldmhdcfaa
