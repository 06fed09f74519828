/- Chapter 12: laps; version.Bytes. -/
import Derived.Test.YtkcohhldmhdcfaaVeG
namespace Go.Proofs.Ytkcohhldmhdcfaa
open Go.RowKit

/-- Does a file overlap keys? -/
def lapB (least most : List UInt8) (f : Fil) : Bool := decide (0 ≤ Ent.bcmp f.most least) && (decide (most.length = 0) || decide (Ent.bcmp f.least most ≤ 0))

set_option maxRecDepth 100000 in
set_option maxHeartbeats 4000000 in
theorem laps_any (F G L M : Nat → Prop) (f : Fil) (vl vm : Value) (least most : List UInt8) (ql qm : Value) (w : World) (hl : Bytes F w vl f.least) (hm : Bytes G w vm f.most) (h1 : Bytes L w ql least) (h2 : Bytes M w qm most) :
    Calls Try.prog 77 #[.agg (filCells f vl vm).toArray, ql, qm] w fun e w' => e = .returned (.bool (lapB least most f)) ∧ Below w.heap.size w w' := by
  obtain ⟨la, lc, rfl⟩ := hl.isSlice
  obtain ⟨ma, mc, rfl⟩ := hm.isSlice
  obtain ⟨pa, pc, rfl⟩ := h1.isSlice
  obtain ⟨qa, qc, rfl⟩ := h2.isSlice
  have HL := Lib.hid hl
  have HM := Lib.hid hm
  have HP := Lib.hid h1
  have HQ := Lib.hid h2
  clear hl hm h1 h2
  obtain ⟨c1, hc1⟩ : ∃ c, Ent.bcmp f.most least = c := ⟨_, rfl⟩
  obtain ⟨c2, hc2⟩ : ∃ c, Ent.bcmp f.least most = c := ⟨_, rfl⟩
  have HC1 := Lib.hid hc1
  have HC2 := Lib.hid hc2
  have HR : Hid (lapB least most f = (decide (0 ≤ c1) && (decide (most.length = 0) || decide (c2 ≤ 0)))) := by show _ = _; unfold lapB; rw [hc1, hc2]
  clear hc1 hc2
  unfold filCells
  go_enter Try.func77, Try.ntmps77
  go_wp2_with fail
  refine Calls.mono (bcompare_at _ _ _ _ _ _ _ (HM.out.below ((Below.refl _ _).alloc (Nat.le_refl _) _)) (HP.out.below ((Below.refl _ _).alloc (Nat.le_refl _) _)) HC1.out) ?_
  rintro _ w1 ⟨rfl, rfl⟩
  by_cases h1 : 0 ≤ c1
  · by_cases h2 : most.length = 0
    · have HF : Hid (lapB least most f = true) := by show _ = _; rw [HR.out]; simp [h1, h2]
      obtain ⟨q, hq⟩ : ∃ q, most.length = q := ⟨_, rfl⟩
      rw [hq] at h2
      rw [hq]
      have g2 : ((q : Int) == 0) = true := by simp; omega
      clear h2 hq HQ
      go_wp2_with fail
      go_ret
      exact ⟨ret_bool HF.out.symm, (Below.refl _ _).alloc (Nat.le_refl _) _⟩
    · have HF : Hid (lapB least most f = decide (c2 ≤ 0)) := by
        show _ = _
        rw [HR.out, decide_eq_false h2, decide_eq_true h1, Bool.true_and, Bool.false_or]
      obtain ⟨q, hq⟩ : ∃ q, most.length = q := ⟨_, rfl⟩
      rw [hq] at h2 HQ
      rw [hq]
      have g2 : ((q : Int) == 0) = false := by simp; omega
      clear h2 hq
      go_wp2_with fail
      refine Calls.mono (bcompare_at _ _ _ _ _ _ _ (HL.out.below ((Below.refl _ _).alloc (Nat.le_refl _) _)) (HQ.out.below ((Below.refl _ _).alloc (Nat.le_refl _) _)) HC2.out) ?_
      rintro _ w1 ⟨rfl, rfl⟩
      go_wp2_with fail
      go_ret
      exact ⟨ret_bool HF.out.symm, (Below.refl _ _).alloc (Nat.le_refl _) _⟩
  · have g1 : decide (0 ≤ c1) = false := decide_eq_false h1
    have HF : Hid (lapB least most f = false) := by show _ = _; rw [HR.out]; simp [g1]
    go_wp2_with fail
    go_ret
    exact ⟨ret_bool HF.out.symm, (Below.refl _ _).alloc (Nat.le_refl _) _⟩
theorem laps_at {r : Bool} (F G L M : Nat → Prop) (f : Fil) (vl vm : Value) (least most : List UInt8) (ql qm : Value) (w : World) (hl : Bytes F w vl f.least) (hm : Bytes G w vm f.most) (h1 : Bytes L w ql least) (h2 : Bytes M w qm most) (hr : lapB least most f = r) :
    Calls Try.prog 77 #[.agg (filCells f vl vm).toArray, ql, qm] w fun e w' => e = .returned (.bool r) ∧ Below w.heap.size w w' := by
  subst hr; exact laps_any F G L M f vl vm least most ql qm w hl hm h1 h2

def bytesTo (l : List Fil) (k : Nat) : Int := ((l.take k).map Fil.size).sum
theorem bytesTo_succ {l : List Fil} {k : Nat} (h : k < l.length) : bytesTo l (k + 1) = bytesTo l k + (fat l k).size := by
  unfold bytesTo
  rw [List.take_succ_eq_append_getElem h, List.map_append, List.sum_append, fat_eq h]
  simp
theorem bytesTo_le {l : List Fil} (hf : ∀ f ∈ l, f.Fine) : ∀ k, k ≤ l.length → 0 ≤ bytesTo l k ∧ bytesTo l k ≤ k * 16777216
  | 0, _ => by simp [bytesTo]
  | k + 1, hk => by
    have h1 := bytesTo_le hf k (by omega)
    have h2 := hf _ (fat_mem (show k < l.length by omega))
    have h3 := h2.s0
    have h4 := h2.s1
    rw [bytesTo_succ (by omega)]
    omega
open Classical in
/-- How many bytes a level has. -/
noncomputable def bytesOfLev (v : Ver) (lv : Int) : Int := if chkW v = 0 ∧ 0 ≤ lv ∧ lv < v.levels.length then bytesTo (lat v.levels lv.toNat) (lat v.levels lv.toNat).length else 0
theorem chkW_good {v : Ver} (h : chkW v = 0) : Hdr v ∧ Good v ∧ cntTo v.levels v.levels.length ≤ 10000 := by
  unfold chkW at h
  split at h
  · cases h
  · rename_i h1
    split at h
    · cases h
    · rename_i h2
      obtain ⟨h3, h4⟩ := Classical.not_not.1 h1
      exact ⟨h3, h4, by omega⟩
theorem cnt_mono {ls : List (List Fil)} (d j : Nat) : cntTo ls j ≤ cntTo ls (j + d) := by
  induction d with
  | zero => exact Nat.le_refl _
  | succ d ih => exact Nat.le_trans ih (Nat.le_add_right _ _)
theorem lev_le_cnt {ls : List (List Fil)} {i : Nat} (h : i < ls.length) : (lat ls i).length ≤ cntTo ls ls.length := by
  have h1 := cnt_mono (ls := ls) (ls.length - (i + 1)) (i + 1)
  rw [show i + 1 + (ls.length - (i + 1)) = ls.length by omega] at h1
  exact Nat.le_trans (Nat.le_add_left _ _) h1

set_option maxRecDepth 100000 in
set_option maxHeartbeats 4000000 in
theorem vbytes_any (F : Nat → Prop) (v : Ver) (lv : Value) (lev : Int) (w : World) (h : Rw (rowK filK) F w lv v.levels) (hw : v.wf) (hfew : cntTo v.levels v.levels.length ≤ 1000000) (hlev : i64In lev) :
    Calls Try.prog 34 #[.agg (verCells v lv).toArray, .int .i64 lev] w fun e w' => e = .returned (.int .i64 (bytesOfLev v lev)) ∧ Below w.heap.size w w' := by
  obtain ⟨xa, ca, rfl⟩ := h.isSlice
  have HA : Hid (Rw (rowK filK) (· < w.heap.size) w (.slice xa v.levels.length ca) v.levels) := h.mono fun k hk _ => hk
  have HCK := Lib.hid (fun w' (hb : Below w.heap.size w w') => check_any F v _ w' (h.below hb) hw hfew)
  clear h
  obtain ⟨m, hm1⟩ : ∃ m, v.levels.length = m := ⟨_, rfl⟩
  have HM := Lib.hid hm1
  rw [hm1] at HA HCK
  unfold verCells at *
  rw [hm1]
  clear hm1
  go_enter Try.func34, Try.ntmps34
  go_upto_region 1 with fail
  refine wp_gen fun w1 hw1 => ?_
  have HX1 : Hid (Blk w1 w.heap.size (verCells v (.slice xa m ca)).toArray 25) := by rw [hw1]; exact Blk.at_new rfl rfl
  have HW1 : Hid (Below w.heap.size w w1) := by rw [hw1]; exact (Below.refl _ _).alloc (Nat.le_refl _) _
  clear hw1
  have x0 : w1.cell? ⟨w.heap.size, 0, none⟩ = some (.slice xa m ca) := HX1.out.cell rfl
  have x1 : w1.cell? ⟨w.heap.size, 1, none⟩ = some (.int .u64 v.next) := HX1.out.cell rfl
  have x2 : w1.cell? ⟨w.heap.size, 2, none⟩ = some (.int .u64 v.seq) := HX1.out.cell rfl
  have x3 : w1.cell? ⟨w.heap.size, 3, none⟩ = some (.int .u64 v.log) := HX1.out.cell rfl
  go_wp2_with fail
  clear x0 x1 x2 x3
  refine Calls.mono (HCK.out _ HW1.out) ?_
  rintro _ w2 ⟨rfl, hb⟩
  have HX2 : Hid (Blk w2 w.heap.size (verCells v (.slice xa m ca)).toArray 25) := HX1.out.below hb HX1.out.lt
  have HW2 : Hid (Below w.heap.size w w2) := HW1.out.trans (hb.mono HW1.out.size)
  clear hb HX1 HW1
  obtain ⟨ck, hck⟩ : ∃ c, chkW v = c := ⟨_, rfl⟩
  have HK := Lib.hid hck
  rw [hck]
  clear hck
  by_cases hc0 : ck = 0
  case neg =>
    have g0 : (ck == 0) = false := by simpa using hc0
    have g1 : (ck != 0) = true := by simpa using hc0
    have HF : Hid (bytesOfLev v lev = 0) := by show _ = _; unfold bytesOfLev; rw [if_neg fun e => hc0 (by rw [← HK.out]; exact e.1)]
    clear hc0
    go_wp2_with fail
    go_ret
    exact ⟨ret_int HF.out.symm, HW2.out⟩
  subst hc0
  have x0 : w2.cell? ⟨w.heap.size, 0, none⟩ = some (.slice xa m ca) := HX2.out.cell rfl
  by_cases hl0 : 0 ≤ lev
  case neg =>
    have g0 : lev < 0 := by omega
    have HF : Hid (bytesOfLev v lev = 0) := by show _ = _; unfold bytesOfLev; rw [if_neg fun e => hl0 e.2.1]
    clear hl0
    go_wp2_with fail
    go_ret
    exact ⟨ret_int HF.out.symm, HW2.out⟩
  by_cases hl1 : lev < m
  case neg =>
    have g0 : (m : Int) ≤ lev := by omega
    have HF : Hid (bytesOfLev v lev = 0) := by show _ = _; unfold bytesOfLev; rw [if_neg fun e => hl1 (by rw [← HM.out]; exact e.2.2)]
    clear hl1
    go_wp2_with fail
    go_ret
    exact ⟨ret_int HF.out.symm, HW2.out⟩
  obtain ⟨i, rfl⟩ : ∃ i : Nat, lev = (i : Int) := ⟨lev.toNat, by omega⟩
  have hi : i < m := by omega
  have hil : i < v.levels.length := by rw [HM.out]; exact hi
  obtain ⟨hh, hg, hcn⟩ := chkW_good HK.out
  have hnn := Nat.le_trans (lev_le_cnt hil) hcn
  have HFI := Lib.hid (hg.fine i hil)
  have HRES : Hid (bytesOfLev v (i : Int) = bytesTo (lat v.levels i) (lat v.levels i).length) := by
    show _ = _
    unfold bytesOfLev
    rw [if_pos ⟨HK.out, by omega, by omega⟩]
    rfl
  obtain ⟨bl, ol, capl, el, hbl, _, hcl⟩ := levs_at HA.out (by omega)
  obtain ⟨u, hu, c0⟩ := hcl i hil
  injection el with e1 e2 e3
  subst e1 e3
  have c0 := (HW2.out.cell (p := ⟨bl, ol + i, none⟩) hbl).trans c0
  obtain ⟨l, hl⟩ : ∃ l, lat v.levels i = l := ⟨_, rfl⟩
  rw [hl] at hu HFI HRES hnn
  obtain ⟨ua, uc, rfl⟩ := hu.isSlice
  have HU := Lib.hid hu
  have HBL := Lib.hid (bytesTo_le HFI.out)
  have HSC := Lib.hid (fun k hk => bytesTo_succ (l := l) (k := k) hk)
  obtain ⟨n, hn⟩ : ∃ n, l.length = n := ⟨_, rfl⟩
  have HLN := Lib.hid hn
  rw [hn] at c0 HU hnn
  have t1 : (i : Int) < (m : Int) := by omega
  have t2 : ¬ (m : Int) ≤ (i : Int) := by omega
  have t3 : ¬ (i : Int) < 0 := by omega
  clear e2 hcl hl hu hn hil hh hg hcn hl0 hl1 HX2 HCK
  go_wp2_with fail
  clear c0 x0 t1 t2 t3
  go_loopw [5, 28] (fun sv kv wr => ∃ (k : Nat), kv = .int .i64 (k : Int) ∧ k ≤ n ∧ sv = .int .i64 (bytesTo l k) ∧ Hid (Below w.heap.size w wr)) (fun _ kv _ => n - (intOf kv).toNat)
  case atStart => exact ⟨0, rfl, by omega, rfl, HW2.out⟩
  case round =>
    obtain ⟨k, rfl, hk, rfl, HB⟩ := hrel
    by_cases hkn : k < n
    · have t5 : (k : Int) < (n : Int) := by omega
      have t6 : 0 ≤ (k : Int) := by omega
      have hkl : k < l.length := by rw [HLN.out]; exact hkn
      obtain ⟨bf, of, capf, ef, hbf, _, hcf⟩ := fils_at HU.out (by omega)
      obtain ⟨vl, vm, hvl, hvm, _, hc6⟩ := hcf k hkl
      obtain ⟨la, lc, rfl⟩ := hvl.isSlice
      obtain ⟨ma, mc, rfl⟩ := hvm.isSlice
      clear hvl hvm
      injection ef with e1 e2 e3
      subst e1 e3
      clear e2 hcf
      have hc6 := hc6.keep HB.out hbf
      obtain ⟨c0, c1, c2, c3, c4, c5⟩ := hc6
      have HS2 := Lib.hid (HSC.out k hkl)
      have hb1 := HBL.out k (by omega)
      have hfin := HFI.out _ (fat_mem hkl)
      have hs0 := hfin.s0
      have hs1 := hfin.s1
      generalize fat l k = f at *
      obtain ⟨s, hs⟩ : ∃ s, bytesTo l k = s := ⟨_, rfl⟩
      rw [hs] at hb1 HS2
      rw [hs]
      have hsum : s + f.size ≤ 1000000000000 := by omega
      have hsum0 : 0 ≤ s := hb1.1
      clear hs hb1 hfin hkl hbf
      go_upto_region 8 with fail
      refine wp_gen fun w5 hw5 => ?_
      have HB5 : Hid (Below w.heap.size w w5) := by rw [hw5]; exact HB.out.alloc HB.out.size _
      clear hw5 c0 c1 c2 c3 c4 c5
      go_wp2_with fail
      go_roundw
      · exact ⟨k + 1, by go_num, by omega, by rw [HS2.out], HB5.out⟩
      · simp only [intOf]; omega
    · have t5 : ¬ (k : Int) < (n : Int) := by omega
      have hkn2 : k = n := by omega
      have HF : Hid (bytesTo l k = bytesOfLev v (i : Int)) := by show _ = _; rw [HRES.out, HLN.out, hkn2]
      clear hkn2
      go_wp2_with fail
      go_ret
      exact ⟨ret_int HF.out, HB.out⟩
end Go.Proofs.Ytkcohhldmhdcfaa
