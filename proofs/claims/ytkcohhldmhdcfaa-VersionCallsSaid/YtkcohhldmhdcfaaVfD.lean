/- Chapter 12's document: Check. -/
import Derived.Test.YtkcohhldmhdcfaaVfAa
import Derived.Test.YtkcohhldmhdcfaaVePa
namespace Go.Proofs.Ytkcohhldmhdcfaa
open Go.RowKit

/-- All files ahead of a place. -/
def allF (ls : List (List Fil)) (i k : Nat) : List Fil := (ls.take i).flatten ++ (lat ls i).take k
theorem nums_allF (ls : List (List Fil)) (i k : Nat) : nums ls i k = (allF ls i k).map Fil.num := rfl
theorem allF_start (ls : List (List Fil)) : allF ls 0 0 = [] := by simp [allF]
theorem allF_more {ls : List (List Fil)} {i k : Nat} (h : k < (lat ls i).length) : allF ls i (k + 1) = allF ls i k ++ [fat (lat ls i) k] := by
  unfold allF
  rw [List.take_succ_eq_append_getElem h, fat_eq h, List.append_assoc]
theorem allF_close {ls : List (List Fil)} {i : Nat} (h : i < ls.length) : allF ls i (lat ls i).length = allF ls (i + 1) 0 := by
  unfold allF
  rw [List.take_of_length_le (Nat.le_refl _), List.take_succ_eq_append_getElem h, lat_eq h]
  simp
theorem allF_len0 (ls : List (List Fil)) : ∀ i, i ≤ ls.length → (allF ls i 0).length = cntTo ls i
  | 0, _ => by simp [allF, cntTo]
  | i + 1, h => by
    rw [← allF_close (by omega)]
    have h1 := allF_len0 ls i (by omega)
    unfold allF at *
    rw [List.take_zero, List.append_nil] at h1
    rw [List.length_append, h1, List.take_length]
    rfl
theorem allF_len {ls : List (List Fil)} {i k : Nat} (hi : i ≤ ls.length) (hk : k ≤ (lat ls i).length) : (allF ls i k).length = cntTo ls i + k := by
  have h1 := allF_len0 ls i hi
  unfold allF at *
  rw [List.take_zero, List.append_nil] at h1
  rw [List.length_append, h1, List.length_take, Nat.min_eq_left hk]

theorem rfile_at {r : Bool} (F G : Nat → Prop) (f : Fil) (vl vm : Value) (next : Int) (w : World) (hl : Bytes F w vl f.least) (hm : Bytes G w vm f.most) (hr : fileB f next = r) :
    Calls Try.prog 50 #[.agg (filCells f vl vm).toArray, .int .u64 next] w fun e w' => e = .returned (.bool r) ∧ Below w.heap.size w w' := by subst hr; exact rfile_any F G f vl vm next w hl hm
theorem rbehind_at {r : Bool} (F G F' G' : Nat → Prop) (i : Nat) (x y : Fil) (xl xm yl ym : Value) (w : World) (h1 : Bytes F w xl x.least) (h2 : Bytes F' w xm x.most) (h3 : Bytes G w yl y.least) (h4 : Bytes G' w ym y.most) (hr : behindB i x y = r) :
    Calls Try.prog 51 #[.agg (filCells x xl xm).toArray, .agg (filCells y yl ym).toArray, .int .i64 (i : Int)] w fun e w' => e = .returned (.bool r) ∧ Below w.heap.size w w' := by subst hr; exact rbehind_any F G F' G' i x y xl xm yl ym w h1 h2 h3 h4

set_option maxRecDepth 100000 in
set_option maxHeartbeats 16000000 in
theorem rcheck_any (F : Nat → Prop) (v : Ver) (lv : Value) (w : World) (h : Rw (rowK filK) F w lv v.levels) (hw : v.wf) (hfew : cntTo v.levels v.levels.length ≤ 1000000 - 1) :
    Calls Try.prog 11 #[.agg (verCells v lv).toArray] w fun e w' => e = .returned (.int .i64 (chkW v)) ∧ Below w.heap.size w w' := by
  obtain ⟨xa, ca, rfl⟩ := h.isSlice
  have HA : Hid (Rw (rowK filK) (· < w.heap.size) w (.slice xa v.levels.length ca) v.levels) := h.mono fun k hk _ => hk
  have HWF := Lib.hid hw
  have HFEW := Lib.hid hfew
  have HWL := Lib.hid h.lwf
  clear h hw hfew
  obtain ⟨m, hm1⟩ : ∃ m, v.levels.length = m := ⟨_, rfl⟩
  have HM := Lib.hid hm1
  rw [hm1] at HA
  unfold verCells
  rw [hm1]
  clear hm1
  go_enter Try.func11, Try.ntmps11
  go_upto_region 1 with fail
  refine wp_gen fun w1 hw1 => ?_
  have HX1 : Hid (Blk w1 w.heap.size (verCells v (.slice xa m ca)).toArray 25) := by rw [hw1]; exact Blk.at_new rfl rfl
  have HW1 : Hid (Below w.heap.size w w1) := by rw [hw1]; exact (Below.refl _ _).alloc (Nat.le_refl _) _
  clear hw1
  obtain ⟨xb, hxb⟩ : ∃ b, w.heap.size = b := ⟨_, rfl⟩
  rw [hxb] at HX1
  have HXB := Lib.hid hxb
  have HXLT : Hid (w.heap.size < w1.heap.size) := by rw [hxb]; exact HX1.out.lt
  try rw [hxb]
  clear hxb
  have x0 : w1.cell? ⟨xb, 0, none⟩ = some (.slice xa m ca) := HX1.out.cell rfl
  have x1 : w1.cell? ⟨xb, 1, none⟩ = some (.int .u64 v.next) := HX1.out.cell rfl
  have x2 : w1.cell? ⟨xb, 2, none⟩ = some (.int .u64 v.seq) := HX1.out.cell rfl
  have x3 : w1.cell? ⟨xb, 3, none⟩ = some (.int .u64 v.log) := HX1.out.cell rfl
  by_cases h0 : m = 5
  case neg =>
    have g0 : ((m : Int) == 5) = false := by simp; omega
    have g1 : ((m : Int) != 5) = true := by simp; omega
    have HF : Hid (chkW v = 2) := chkW_hdr fun e => h0 (by rw [← HM.out]; exact e.five)
    clear h0
    go_wp2_with fail
    go_ret
    exact ⟨ret_int HF.out.symm, HW1.out⟩
  subst h0
  by_cases h1 : 1 ≤ v.next
  case neg =>
    have g1 : v.next < 1 := by omega
    have HF : Hid (chkW v = 2) := chkW_hdr fun e => h1 e.n0
    clear h1
    go_wp2_with fail
    go_ret
    exact ⟨ret_int HF.out.symm, HW1.out⟩
  by_cases h2 : v.next ≤ 1000000000000
  case neg =>
    have g2 : 1000000000000 < v.next := by omega
    have HF : Hid (chkW v = 2) := chkW_hdr fun e => h2 e.n1
    clear h2
    go_wp2_with fail
    go_ret
    exact ⟨ret_int HF.out.symm, HW1.out⟩
  by_cases h3 : v.seq ≤ 72057594037927935
  case neg =>
    have g3 : 72057594037927935 < v.seq := by omega
    have HF : Hid (chkW v = 2) := chkW_hdr fun e => h3 e.seq
    clear h3
    go_wp2_with fail
    go_ret
    exact ⟨ret_int HF.out.symm, HW1.out⟩
  by_cases h4 : v.log < 1000000000000
  case neg =>
    have g4 : 1000000000000 ≤ v.log := by omega
    have HF : Hid (chkW v = 2) := chkW_hdr fun e => h4 e.log
    clear h4
    go_wp2_with fail
    go_ret
    exact ⟨ret_int HF.out.symm, HW1.out⟩
  have HH : Hid (Hdr v) := ⟨HM.out, h1, h2, h3, h4⟩
  go_wp2_with fail
  clear x0 x1 x2 x3 h1 h2 h3 h4
  go_loopw [3, 4] (fun av iv wr => ∃ (i : Nat) (a : Option Addr) (cc : Nat), iv = .int .i64 (i : Int) ∧ i ≤ 5 ∧ av = .slice a (cntTo v.levels i) cc ∧ Hid (ROwnF filK (· < w.heap.size) w1.heap.size 42 wr (.slice a (cntTo v.levels i) cc) (allF v.levels i 0)) ∧ Hid (AllTo v.next v.levels i 0) ∧ Hid (Blk wr xb (verCells v (.slice xa 5 ca)).toArray 25) ∧ Hid (Below w1.heap.size w1 wr)) (fun _ iv _ => 5 - (intOf iv).toNat)
  case atStart => exact ⟨0, none, 0, rfl, by omega, rfl, by rw [allF_start]; exact ROwnF.nil _ _ _ _ _, AllTo.start _ _, HX1.out, Below.refl _ _⟩
  case round =>
    obtain ⟨i, oa, oc, rfl, hi, rfl, HO, HAT, HX, HB⟩ := hrel
    have x0 : wr.cell? ⟨xb, 0, none⟩ = some (.slice xa 5 ca) := HX.out.cell rfl
    by_cases hlt : i < 5
    · have t1 : (i : Int) < 5 := by omega
      have t3 : 0 ≤ (i : Int) := by omega
      have hil : i < v.levels.length := by rw [HM.out]; exact hlt
      obtain ⟨bl, ol, capl, el, hbl, _, hcl⟩ := levs_at HA.out (by omega)
      obtain ⟨u, hu, c0⟩ := hcl i hil
      injection el with e1 e2 e3
      subst e1 e3
      clear e2 hcl
      have HC0 : Hid (w1.cell? ⟨bl, ol + i, none⟩ = some u) := (HW1.out.cell (p := ⟨bl, ol + i, none⟩) hbl).trans c0
      have HBL : Hid (bl < w1.heap.size) := Nat.lt_of_lt_of_le hbl HW1.out.size
      have HWI := Lib.hid (HWL.out i hil)
      have HCLO := Lib.hid (fun h => AllTo.close (next := v.next) (ls := v.levels) (i := i) h)
      have HFC := Lib.hid (allF_close hil)
      have HFM := Lib.hid (fun k hk => allF_more (ls := v.levels) (i := i) (k := k) hk)
      have HBAD := Lib.hid (fun k hk h => chkW_bad (v := v) (i := i) (k := k) hil hk h)
      have hct : cntTo v.levels (i + 1) = cntTo v.levels i + (lat v.levels i).length := rfl
      have HAL := Lib.hid (fun k hk => allF_len (ls := v.levels) (i := i) (k := k) (Nat.le_of_lt hil) hk)
      obtain ⟨n, hn⟩ : ∃ n, (lat v.levels i).length = n := ⟨_, rfl⟩
      have HLN := Lib.hid hn
      obtain ⟨ua, uc, rfl⟩ := hu.isSlice
      rw [hn] at HC0 hu hct HCLO HFC HFM HBAD HAL
      have HU : Hid (Rw filK (· < w.heap.size) w1 (.slice ua n uc) (lat v.levels i)) := hu.keep fun k _ hk => HW1.out.block k hk
      have HCN := Lib.hid hct
      have HCL : Hid (cntTo v.levels i + n ≤ 1000000 - 1) := by
        have h2 : ∀ d j, cntTo v.levels j ≤ cntTo v.levels (j + d) := fun d j => by
          induction d with
          | zero => exact Nat.le_refl _
          | succ d ih => exact Nat.le_trans ih (Nat.le_add_right _ _)
        have h3 := h2 (5 - (i + 1)) (i + 1)
        rw [show i + 1 + (5 - (i + 1)) = 5 by omega] at h3
        have h4 := HFEW.out
        rw [HM.out] at h4
        rw [← hct]
        exact Nat.le_trans h3 h4
      obtain ⟨c, hc⟩ : ∃ c, cntTo v.levels i = c := ⟨_, rfl⟩
      have HCC := Lib.hid hc
      rw [hc] at HCL HO HAL
      rw [hc]
      have hcl := HCL.out
      clear hu hn hil hct hc c0 hbl
      go_wp2_with fail
      clear x0
      go_loopw [3, 5] (fun av kv wr => ∃ (k : Nat) (a : Option Addr) (cc : Nat), kv = .int .i64 (k : Int) ∧ k ≤ n ∧ av = .slice a (c + k) cc ∧ Hid (ROwnF filK (· < w.heap.size) w1.heap.size 42 wr (.slice a (c + k) cc) (allF v.levels i k)) ∧ Hid (AllTo v.next v.levels i k) ∧ Hid (Blk wr xb (verCells v (.slice (some ⟨bl, ol, none⟩) 5 ca)).toArray 25) ∧ Hid (Below w1.heap.size w1 wr)) (fun _ kv _ => n - (intOf kv).toNat)
      case atStart => exact ⟨0, oa, oc, rfl, by omega, rfl, HO.out, HAT.out, HX.out, HB.out⟩
      case round =>
        obtain ⟨k, pa, pc, rfl, hk, rfl, HOk, HATk, HXk, HBk⟩ := hrel
        clear HO HAT HX HB
        have x0 : wr.cell? ⟨xb, 0, none⟩ = some (.slice (some ⟨bl, ol, none⟩) 5 ca) := HXk.out.cell rfl
        have c9 : wr.cell? ⟨bl, ol + i, none⟩ = some (.slice ua n uc) := (HBk.out.cell (p := ⟨bl, ol + i, none⟩) HBL.out).trans HC0.out
        by_cases hkn : k < n
        · have t5 : (k : Int) < (n : Int) := by omega
          have t6 : 0 ≤ (k : Int) := by omega
          have hkl : k < (lat v.levels i).length := by rw [HLN.out]; exact hkn
          obtain ⟨bf, of, capf, ef, hbf, _, hcf⟩ := fils_at HU.out (by omega)
          have hcf2 := Lib.hid hcf
          obtain ⟨vl, vm, hvl, hvm, hwf, hc6⟩ := hcf k hkl
          injection ef with e1 e2 e3
          subst e1 e3
          clear e2 hcf
          have HOK := Lib.hid (fun (h : OkAt v.next v.levels i k) => HATk.out.more h)
          have HBK := Lib.hid (HBAD.out k hkn)
          have HFMk := Lib.hid (HFM.out k hkn)
          have HALk := Lib.hid (HAL.out k (by omega))
          obtain ⟨f, hf⟩ : ∃ f, fat (lat v.levels i) k = f := ⟨_, rfl⟩
          have HFF := Lib.hid hf
          obtain ⟨xs, hxs⟩ : ∃ xs, allF v.levels i k = xs := ⟨_, rfl⟩
          have HMK : Hid (OkAt v.next v.levels i k ↔ f.Fine ∧ f.num ∉ xs.map Fil.num ∧ f.num < v.next ∧ (0 < k → behind i (fat (lat v.levels i) (k - 1)) f)) := by
            show _ ↔ _
            rw [← hf, ← hxs]
            exact ⟨fun h => ⟨h.fine, h.new, h.next, h.order⟩, fun h => ⟨h.1, h.2.1, h.2.2.1, h.2.2.2⟩⟩
          rw [hf] at hvl hvm hwf hc6 HFMk
          rw [hxs] at HOk HFMk HALk
          obtain ⟨la, lc, rfl⟩ := hvl.isSlice
          obtain ⟨ma, mc, rfl⟩ := hvm.isSlice
          have HVL := Lib.hid (hvl.below HBk.out)
          have HVM := Lib.hid (hvm.below HBk.out)
          have HNU := Lib.hid hwf
          have hbf1 : bf < w1.heap.size := Nat.lt_of_lt_of_le hbf HW1.out.size
          have hc6 := hc6.keep HBk.out hbf1
          have HBF : Hid (bf < w1.heap.size) := hbf1
          obtain ⟨c0, c1, c2, c3, c4, c5⟩ := hc6
          clear hvl hvm hwf hf hkl hbf hbf1 hxs
          go_upto_region 11 with fail
          clear c0 c1 c2 c3 c4 c5 x0 c9
          refine wp_gen fun w3 hw3 => ?_
          have HE3 : Hid (Blk w3 wr.heap.size (filCells f (.slice la f.least.length lc) (.slice ma f.most.length mc)).toArray 42) := by rw [hw3]; exact Blk.at_new rfl rfl
          have HW3 : Hid (Below wr.heap.size wr w3) := by rw [hw3]; exact (Below.refl _ _).alloc (Nat.le_refl _) _
          clear hw3
          have HX3 := Lib.hid (HXk.out.below HW3.out HXk.out.lt)
          have HB3 : Hid (Below w1.heap.size w1 w3) := HBk.out.trans (HW3.out.mono HBk.out.size)
          have HO3 := Lib.hid (HOk.out.below HW3.out)
          have HVL3 := Lib.hid (HVL.out.below HW3.out)
          have HVM3 := Lib.hid (HVM.out.below HW3.out)
          clear HXk HBk HW3 HOk HVL HVM
          generalize wr.heap.size = fb at *
          go_cut [80] from 57 to 79 (fun z wx => (∃ b : Bool, z = .bool b ∧ Hid (b = false ↔ f.Fine ∧ f.num < v.next ∧ (0 < k → behind i (fat (lat v.levels i) (k - 1)) f))) ∧ Hid (Below w3.heap.size w3 wx))
          case first =>
            have HD0 : Hid (Below w3.heap.size w3 w3.drew) := below_drew (Below.refl _ _)
            obtain ⟨r, hr⟩ : ∃ r, fileB f v.next = r := ⟨_, rfl⟩
            have HR := Lib.hid hr
            clear hr
            cases r with
            | false =>
              have HKP : Hid (∀ W, Below w3.heap.size w3 W → (W.cell? ⟨fb, 0, none⟩ = some (.int .u64 f.num) ∧ W.cell? ⟨fb, 1, none⟩ = some (.int .i64 f.size) ∧ W.cell? ⟨fb, 2, none⟩ = some (.slice la f.least.length lc) ∧ W.cell? ⟨fb, 3, none⟩ = some (.slice ma f.most.length mc) ∧ W.cell? ⟨fb, 4, none⟩ = some (.int .i64 f.ents) ∧ W.cell? ⟨fb, 5, none⟩ = some (.int .u64 f.mseq) ∧ W.cell? ⟨xb, 1, none⟩ = some (.int .u64 v.next))) := fun W hb => ⟨(HE3.out.below hb HE3.out.lt).cell rfl, (HE3.out.below hb HE3.out.lt).cell rfl, (HE3.out.below hb HE3.out.lt).cell rfl, (HE3.out.below hb HE3.out.lt).cell rfl, (HE3.out.below hb HE3.out.lt).cell rfl, (HE3.out.below hb HE3.out.lt).cell rfl, (HX3.out.below hb HX3.out.lt).cell rfl⟩
              refine wp_region_held_drew (S := fun w' => (w'.cell? ⟨fb, 0, none⟩ = some (.int .u64 f.num) ∧ w'.cell? ⟨fb, 1, none⟩ = some (.int .i64 f.size) ∧ w'.cell? ⟨fb, 2, none⟩ = some (.slice la f.least.length lc) ∧ w'.cell? ⟨fb, 3, none⟩ = some (.slice ma f.most.length mc) ∧ w'.cell? ⟨fb, 4, none⟩ = some (.int .i64 f.ents) ∧ w'.cell? ⟨fb, 5, none⟩ = some (.int .u64 f.mseq) ∧ w'.cell? ⟨xb, 1, none⟩ = some (.int .u64 v.next))) (by kernel_rfl) (HKP.out _ HD0.out) (fun hHeld => ?_)
              refine wpAnyH_take (i := 0) (oi := ?oRA_1_0) (v := ?vRA_1_0) ?eRA_1_0 (by kernel_rfl) (by kernel_rfl) (by kernel_rfl) ?qRA_1_0 (Or.inl ⟨?wRA_1_0, ?yRA_1_0⟩) (by assumption) ?rRA_1_0
              case eRA_1_0 => simp only [List.getElem?_toArray, List.getElem?_cons_zero]; rfl
              case wRA_1_0 => rfl
              case qRA_1_0 => exact fun _ _ _ h => h
              case yRA_1_0 => (intro w hSw; (try dsimp only at hSw); go_simp; try with_reducible rfl)
              try simp only [Act.put, List.setIfInBounds_toArray, List.set_cons_zero, List.set_cons_succ]
              refine wpAnyH_take (i := 1) (oi := ?oRA_2_1) (v := ?vRA_2_1) ?eRA_2_1 (by kernel_rfl) (by kernel_rfl) (by kernel_rfl) ?qRA_2_1 (Or.inl ⟨?wRA_2_1, ?yRA_2_1⟩) (by assumption) ?rRA_2_1
              case eRA_2_1 => simp only [List.getElem?_toArray, List.getElem?_cons_succ, List.getElem?_cons_zero]; rfl
              case wRA_2_1 => rfl
              case qRA_2_1 => exact fun _ _ _ h => h
              case yRA_2_1 => (intro w hSw; (try dsimp only at hSw); go_simp; try with_reducible rfl)
              try simp only [Act.put, List.setIfInBounds_toArray, List.set_cons_zero, List.set_cons_succ]
              refine wpAnyH_take (i := 2) (oi := ?oRA_3_2) (v := ?vRA_3_2) ?eRA_3_2 (by kernel_rfl) (by kernel_rfl) (by kernel_rfl) ?qRA_3_2 (Or.inl ⟨?wRA_3_2, ?yRA_3_2⟩) (by assumption) ?rRA_3_2
              case eRA_3_2 => simp only [List.getElem?_toArray, List.getElem?_cons_succ, List.getElem?_cons_zero]; rfl
              case wRA_3_2 => rfl
              case qRA_3_2 => exact fun _ _ _ h => h
              case yRA_3_2 => (intro w hSw; (try dsimp only at hSw); go_simp; try with_reducible rfl)
              try simp only [Act.put, List.setIfInBounds_toArray, List.set_cons_zero, List.set_cons_succ]
              have hOld := hHeld
              clear hHeld
              refine wpAnyH_ready (rs := [3]) (by kernel_rfl) (by simp) ?_
              refine AllReadyH.cons (o := ?oRA_4_3) ?eRA_4_3 (fun K hK => ?_) AllReadyH.nil
              case eRA_4_3 => simp only [List.getElem?_toArray, List.getElem?_cons_succ, List.getElem?_cons_zero]; rfl
              go_simp
              (go_at_call 50; refine Calls.mono (rfile_at _ _ f (.slice la f.least.length lc) (.slice ma f.most.length mc) v.next _ (HVL3.out.below HD0.out) (HVM3.out.below HD0.out) HR.out) ?_; rintro _ y1 ⟨rfl, hb1⟩; have HD1 : Hid (Below w3.heap.size w3 y1) := HD0.out.trans (hb1.mono HD0.out.size))
              try go_wp2_with fail
              refine hK.out _ _ (HKP.out _ HD1.out) (fun hHeld => ?_)
              clear hK hOld
              try simp only [Act.put, List.setIfInBounds_toArray, List.set_cons_zero, List.set_cons_succ]
              refine wpAnyH_take (i := 4) (oi := ?oRA_5_4) (v := ?vRA_5_4) ?eRA_5_4 (by kernel_rfl) (by kernel_rfl) (by kernel_rfl) ?qRA_5_4 (Or.inl ⟨?wRA_5_4, ?yRA_5_4⟩) (by assumption) ?rRA_5_4
              case eRA_5_4 => simp only [List.getElem?_toArray, List.getElem?_cons_succ, List.getElem?_cons_zero]; rfl
              case wRA_5_4 => rfl
              case qRA_5_4 => exact fun _ _ _ h => h
              case yRA_5_4 => (intro w hSw; (try dsimp only at hSw); go_simp; try with_reducible rfl)
              try simp only [Act.put, List.setIfInBounds_toArray, List.set_cons_zero, List.set_cons_succ]
              refine wpAnyH_take (i := 5) (oi := ?oRA_6_5) (v := ?vRA_6_5) ?eRA_6_5 (by kernel_rfl) (by kernel_rfl) (by kernel_rfl) ?qRA_6_5 (Or.inl ⟨?wRA_6_5, ?yRA_6_5⟩) (by assumption) ?rRA_6_5
              case eRA_6_5 => simp only [List.getElem?_toArray, List.getElem?_cons_succ, List.getElem?_cons_zero]; rfl
              case wRA_6_5 => rfl
              case qRA_6_5 => exact fun _ _ _ h => h
              case yRA_6_5 => (intro w hSw; (try dsimp only at hSw); go_simp; try with_reducible rfl)
              try simp only [Act.put, List.setIfInBounds_toArray, List.set_cons_zero, List.set_cons_succ]
              refine wpAnyH_take (i := 6) (oi := ?oRA_7_6) (v := undef) ?eRA_7_6 (by kernel_rfl) (by kernel_rfl) (by kernel_rfl) ?qRA_7_6 (Or.inr ⟨?wRA_7_6, rfl⟩) (by assumption) ?rRA_7_6
              case eRA_7_6 => simp only [List.getElem?_toArray, List.getElem?_cons_succ, List.getElem?_cons_zero]; rfl
              case wRA_7_6 => rfl
              case qRA_7_6 => exact fun _ _ _ h => h
              try simp only [Act.put, List.setIfInBounds_toArray, List.set_cons_zero, List.set_cons_succ]
              refine wpAnyH_take (i := 7) (oi := ?oRA_8_7) (v := undef) ?eRA_8_7 (by kernel_rfl) (by kernel_rfl) (by kernel_rfl) ?qRA_8_7 (Or.inr ⟨?wRA_8_7, rfl⟩) (by assumption) ?rRA_8_7
              case eRA_8_7 => simp only [List.getElem?_toArray, List.getElem?_cons_succ, List.getElem?_cons_zero]; rfl
              case wRA_8_7 => rfl
              case qRA_8_7 => exact fun _ _ _ h => h
              try simp only [Act.put, List.setIfInBounds_toArray, List.set_cons_zero, List.set_cons_succ]
              refine wpAnyH_take (i := 8) (oi := ?oRA_9_8) (v := undef) ?eRA_9_8 (by kernel_rfl) (by kernel_rfl) (by kernel_rfl) ?qRA_9_8 (Or.inr ⟨?wRA_9_8, rfl⟩) (by assumption) ?rRA_9_8
              case eRA_9_8 => simp only [List.getElem?_toArray, List.getElem?_cons_succ, List.getElem?_cons_zero]; rfl
              case wRA_9_8 => rfl
              case qRA_9_8 => exact fun _ _ _ h => h
              try simp only [Act.put, List.setIfInBounds_toArray, List.set_cons_zero, List.set_cons_succ]
              refine wpAnyH_take (i := 9) (oi := ?oRA_10_9) (v := undef) ?eRA_10_9 (by kernel_rfl) (by kernel_rfl) (by kernel_rfl) ?qRA_10_9 (Or.inr ⟨?wRA_10_9, rfl⟩) (by assumption) ?rRA_10_9
              case eRA_10_9 => simp only [List.getElem?_toArray, List.getElem?_cons_succ, List.getElem?_cons_zero]; rfl
              case wRA_10_9 => rfl
              case qRA_10_9 => exact fun _ _ _ h => h
              try simp only [Act.put, List.setIfInBounds_toArray, List.set_cons_zero, List.set_cons_succ]
              refine wpAnyH_take (i := 10) (oi := ?oRA_11_10) (v := undef) ?eRA_11_10 (by kernel_rfl) (by kernel_rfl) (by kernel_rfl) ?qRA_11_10 (Or.inr ⟨?wRA_11_10, rfl⟩) (by assumption) ?rRA_11_10
              case eRA_11_10 => simp only [List.getElem?_toArray, List.getElem?_cons_succ, List.getElem?_cons_zero]; rfl
              case wRA_11_10 => rfl
              case qRA_11_10 => exact fun _ _ _ h => h
              try simp only [Act.put, List.setIfInBounds_toArray, List.set_cons_zero, List.set_cons_succ]
              refine wpAnyH_take (i := 11) (oi := ?oRA_12_11) (v := undef) ?eRA_12_11 (by kernel_rfl) (by kernel_rfl) (by kernel_rfl) ?qRA_12_11 (Or.inr ⟨?wRA_12_11, rfl⟩) (by assumption) ?rRA_12_11
              case eRA_12_11 => simp only [List.getElem?_toArray, List.getElem?_cons_succ, List.getElem?_cons_zero]; rfl
              case wRA_12_11 => rfl
              case qRA_12_11 => exact fun _ _ _ h => h
              try simp only [Act.put, List.setIfInBounds_toArray, List.set_cons_zero, List.set_cons_succ]
              refine wpAnyH_take (i := 12) (oi := ?oRA_13_12) (v := undef) ?eRA_13_12 (by kernel_rfl) (by kernel_rfl) (by kernel_rfl) ?qRA_13_12 (Or.inr ⟨?wRA_13_12, rfl⟩) (by assumption) ?rRA_13_12
              case eRA_13_12 => simp only [List.getElem?_toArray, List.getElem?_cons_succ, List.getElem?_cons_zero]; rfl
              case wRA_13_12 => rfl
              case qRA_13_12 => exact fun _ _ _ h => h
              try simp only [Act.put, List.setIfInBounds_toArray, List.set_cons_zero, List.set_cons_succ]
              refine wpAnyH_take (i := 13) (oi := ?oRA_14_13) (v := undef) ?eRA_14_13 (by kernel_rfl) (by kernel_rfl) (by kernel_rfl) ?qRA_14_13 (Or.inr ⟨?wRA_14_13, rfl⟩) (by assumption) ?rRA_14_13
              case eRA_14_13 => simp only [List.getElem?_toArray, List.getElem?_cons_succ, List.getElem?_cons_zero]; rfl
              case wRA_14_13 => rfl
              case qRA_14_13 => exact fun _ _ _ h => h
              try simp only [Act.put, List.setIfInBounds_toArray, List.set_cons_zero, List.set_cons_succ]
              refine wpAnyH_take (i := 14) (oi := ?oRA_15_14) (v := undef) ?eRA_15_14 (by kernel_rfl) (by kernel_rfl) (by kernel_rfl) ?qRA_15_14 (Or.inr ⟨?wRA_15_14, rfl⟩) (by assumption) ?rRA_15_14
              case eRA_15_14 => simp only [List.getElem?_toArray, List.getElem?_cons_succ, List.getElem?_cons_zero]; rfl
              case wRA_15_14 => rfl
              case qRA_15_14 => exact fun _ _ _ h => h
              try simp only [Act.put, List.setIfInBounds_toArray, List.set_cons_zero, List.set_cons_succ]
              refine wpAnyH_take (i := 15) (oi := ?oRA_16_15) (v := undef) ?eRA_16_15 (by kernel_rfl) (by kernel_rfl) (by kernel_rfl) ?qRA_16_15 (Or.inr ⟨?wRA_16_15, rfl⟩) (by assumption) ?rRA_16_15
              case eRA_16_15 => simp only [List.getElem?_toArray, List.getElem?_cons_succ, List.getElem?_cons_zero]; rfl
              case wRA_16_15 => rfl
              case qRA_16_15 => exact fun _ _ _ h => h
              try simp only [Act.put, List.setIfInBounds_toArray, List.set_cons_zero, List.set_cons_succ]
              refine wpAnyH_take (i := 16) (oi := ?oRA_17_16) (v := undef) ?eRA_17_16 (by kernel_rfl) (by kernel_rfl) (by kernel_rfl) ?qRA_17_16 (Or.inr ⟨?wRA_17_16, rfl⟩) (by assumption) ?rRA_17_16
              case eRA_17_16 => simp only [List.getElem?_toArray, List.getElem?_cons_succ, List.getElem?_cons_zero]; rfl
              case wRA_17_16 => rfl
              case qRA_17_16 => exact fun _ _ _ h => h
              try simp only [Act.put, List.setIfInBounds_toArray, List.set_cons_zero, List.set_cons_succ]
              refine wpAnyH_take (i := 17) (oi := ?oRA_18_17) (v := undef) ?eRA_18_17 (by kernel_rfl) (by kernel_rfl) (by kernel_rfl) ?qRA_18_17 (Or.inr ⟨?wRA_18_17, rfl⟩) (by assumption) ?rRA_18_17
              case eRA_18_17 => simp only [List.getElem?_toArray, List.getElem?_cons_succ, List.getElem?_cons_zero]; rfl
              case wRA_18_17 => rfl
              case qRA_18_17 => exact fun _ _ _ h => h
              try simp only [Act.put, List.setIfInBounds_toArray, List.set_cons_zero, List.set_cons_succ]
              refine wpAnyH_take (i := 18) (oi := ?oRA_19_18) (v := undef) ?eRA_19_18 (by kernel_rfl) (by kernel_rfl) (by kernel_rfl) ?qRA_19_18 (Or.inr ⟨?wRA_19_18, rfl⟩) (by assumption) ?rRA_19_18
              case eRA_19_18 => simp only [List.getElem?_toArray, List.getElem?_cons_succ, List.getElem?_cons_zero]; rfl
              case wRA_19_18 => rfl
              case qRA_19_18 => exact fun _ _ _ h => h
              try simp only [Act.put, List.setIfInBounds_toArray, List.set_cons_zero, List.set_cons_succ]
              refine wpAnyH_take (i := 19) (oi := ?oRA_20_19) (v := undef) ?eRA_20_19 (by kernel_rfl) (by kernel_rfl) (by kernel_rfl) ?qRA_20_19 (Or.inr ⟨?wRA_20_19, rfl⟩) (by assumption) ?rRA_20_19
              case eRA_20_19 => simp only [List.getElem?_toArray, List.getElem?_cons_succ, List.getElem?_cons_zero]; rfl
              case wRA_20_19 => rfl
              case qRA_20_19 => exact fun _ _ _ h => h
              try simp only [Act.put, List.setIfInBounds_toArray, List.set_cons_zero, List.set_cons_succ]
              refine wpAnyH_take (i := 20) (oi := ?oRA_21_20) (v := undef) ?eRA_21_20 (by kernel_rfl) (by kernel_rfl) (by kernel_rfl) ?qRA_21_20 (Or.inr ⟨?wRA_21_20, rfl⟩) (by assumption) ?rRA_21_20
              case eRA_21_20 => simp only [List.getElem?_toArray, List.getElem?_cons_succ, List.getElem?_cons_zero]; rfl
              case wRA_21_20 => rfl
              case qRA_21_20 => exact fun _ _ _ h => h
              try simp only [Act.put, List.setIfInBounds_toArray, List.set_cons_zero, List.set_cons_succ]
              refine wpAnyH_take (i := 21) (oi := ?oRA_22_21) (v := undef) ?eRA_22_21 (by kernel_rfl) (by kernel_rfl) (by kernel_rfl) ?qRA_22_21 (Or.inr ⟨?wRA_22_21, rfl⟩) (by assumption) ?rRA_22_21
              case eRA_22_21 => simp only [List.getElem?_toArray, List.getElem?_cons_succ, List.getElem?_cons_zero]; rfl
              case wRA_22_21 => rfl
              case qRA_22_21 => exact fun _ _ _ h => h
              try simp only [Act.put, List.setIfInBounds_toArray, List.set_cons_zero, List.set_cons_succ]
              refine wpAnyH_take (i := 22) (oi := ?oRA_23_22) (v := undef) ?eRA_23_22 (by kernel_rfl) (by kernel_rfl) (by kernel_rfl) ?qRA_23_22 (Or.inr ⟨?wRA_23_22, rfl⟩) (by assumption) ?rRA_23_22
              case eRA_23_22 => simp only [List.getElem?_toArray, List.getElem?_cons_succ, List.getElem?_cons_zero]; rfl
              case wRA_23_22 => rfl
              case qRA_23_22 => exact fun _ _ _ h => h
              try simp only [Act.put, List.setIfInBounds_toArray, List.set_cons_zero, List.set_cons_succ]
              refine wpAnyH_take (i := 23) (oi := ?oRA_24_23) (v := ?vRA_24_23) ?eRA_24_23 (by kernel_rfl) (by kernel_rfl) (by kernel_rfl) ?qRA_24_23 (Or.inl ⟨?wRA_24_23, ?yRA_24_23⟩) (by assumption) ?rRA_24_23
              case eRA_24_23 => simp only [List.getElem?_toArray, List.getElem?_cons_succ, List.getElem?_cons_zero]; rfl
              case wRA_24_23 => rfl
              case qRA_24_23 => exact fun _ _ _ h => h
              case yRA_24_23 => (intro w hSw; (try dsimp only at hSw); go_simp; try with_reducible rfl)
              try simp only [Act.put, List.setIfInBounds_toArray, List.set_cons_zero, List.set_cons_succ]
              refine wpAnyH_done (by kernel_rfl) ?_ _
              have HBB : Hid ((true = false) ↔ f.Fine ∧ f.num < v.next ∧ (0 < k → behind i (fat (lat v.levels i) (k - 1)) f)) := ⟨fun h => (by cases h), fun h => by have h5 := fileB_yes ⟨h.1, h.2.1⟩; rw [HR.out] at h5; cases h5⟩
              clear hHeld HKP
              go_wp2_with fail
              go_meet
              exact ⟨⟨true, rfl, HBB.out⟩, HD1.out⟩
            | true =>
              have HFI := Lib.hid (fileB_iff.1 HR.out)
              by_cases hk0 : 0 < k
              case neg =>
                have g0 : decide (0 < (k : Int)) = false := decide_eq_false (by omega)
                have g1 : decide (0 < k) = false := decide_eq_false hk0
                have HK0 := Lib.hid hk0
                have HKP : Hid (∀ W, Below w3.heap.size w3 W → (W.cell? ⟨fb, 0, none⟩ = some (.int .u64 f.num) ∧ W.cell? ⟨fb, 1, none⟩ = some (.int .i64 f.size) ∧ W.cell? ⟨fb, 2, none⟩ = some (.slice la f.least.length lc) ∧ W.cell? ⟨fb, 3, none⟩ = some (.slice ma f.most.length mc) ∧ W.cell? ⟨fb, 4, none⟩ = some (.int .i64 f.ents) ∧ W.cell? ⟨fb, 5, none⟩ = some (.int .u64 f.mseq) ∧ W.cell? ⟨xb, 1, none⟩ = some (.int .u64 v.next))) := fun W hb => ⟨(HE3.out.below hb HE3.out.lt).cell rfl, (HE3.out.below hb HE3.out.lt).cell rfl, (HE3.out.below hb HE3.out.lt).cell rfl, (HE3.out.below hb HE3.out.lt).cell rfl, (HE3.out.below hb HE3.out.lt).cell rfl, (HE3.out.below hb HE3.out.lt).cell rfl, (HX3.out.below hb HX3.out.lt).cell rfl⟩
                clear hk0
                refine wp_region_held_drew (S := fun w' => (w'.cell? ⟨fb, 0, none⟩ = some (.int .u64 f.num) ∧ w'.cell? ⟨fb, 1, none⟩ = some (.int .i64 f.size) ∧ w'.cell? ⟨fb, 2, none⟩ = some (.slice la f.least.length lc) ∧ w'.cell? ⟨fb, 3, none⟩ = some (.slice ma f.most.length mc) ∧ w'.cell? ⟨fb, 4, none⟩ = some (.int .i64 f.ents) ∧ w'.cell? ⟨fb, 5, none⟩ = some (.int .u64 f.mseq) ∧ w'.cell? ⟨xb, 1, none⟩ = some (.int .u64 v.next))) (by kernel_rfl) (HKP.out _ HD0.out) (fun hHeld => ?_)
                refine wpAnyH_take (i := 0) (oi := ?oRB_25_0) (v := ?vRB_25_0) ?eRB_25_0 (by kernel_rfl) (by kernel_rfl) (by kernel_rfl) ?qRB_25_0 (Or.inl ⟨?wRB_25_0, ?yRB_25_0⟩) (by assumption) ?rRB_25_0
                case eRB_25_0 => simp only [List.getElem?_toArray, List.getElem?_cons_zero]; rfl
                case wRB_25_0 => rfl
                case qRB_25_0 => exact fun _ _ _ h => h
                case yRB_25_0 => (intro w hSw; (try dsimp only at hSw); go_simp; try with_reducible rfl)
                try simp only [Act.put, List.setIfInBounds_toArray, List.set_cons_zero, List.set_cons_succ]
                refine wpAnyH_take (i := 1) (oi := ?oRB_26_1) (v := ?vRB_26_1) ?eRB_26_1 (by kernel_rfl) (by kernel_rfl) (by kernel_rfl) ?qRB_26_1 (Or.inl ⟨?wRB_26_1, ?yRB_26_1⟩) (by assumption) ?rRB_26_1
                case eRB_26_1 => simp only [List.getElem?_toArray, List.getElem?_cons_succ, List.getElem?_cons_zero]; rfl
                case wRB_26_1 => rfl
                case qRB_26_1 => exact fun _ _ _ h => h
                case yRB_26_1 => (intro w hSw; (try dsimp only at hSw); go_simp; try with_reducible rfl)
                try simp only [Act.put, List.setIfInBounds_toArray, List.set_cons_zero, List.set_cons_succ]
                refine wpAnyH_take (i := 2) (oi := ?oRB_27_2) (v := ?vRB_27_2) ?eRB_27_2 (by kernel_rfl) (by kernel_rfl) (by kernel_rfl) ?qRB_27_2 (Or.inl ⟨?wRB_27_2, ?yRB_27_2⟩) (by assumption) ?rRB_27_2
                case eRB_27_2 => simp only [List.getElem?_toArray, List.getElem?_cons_succ, List.getElem?_cons_zero]; rfl
                case wRB_27_2 => rfl
                case qRB_27_2 => exact fun _ _ _ h => h
                case yRB_27_2 => (intro w hSw; (try dsimp only at hSw); go_simp; try with_reducible rfl)
                try simp only [Act.put, List.setIfInBounds_toArray, List.set_cons_zero, List.set_cons_succ]
                have hOld := hHeld
                clear hHeld
                refine wpAnyH_ready (rs := [3]) (by kernel_rfl) (by simp) ?_
                refine AllReadyH.cons (o := ?oRB_28_3) ?eRB_28_3 (fun K hK => ?_) AllReadyH.nil
                case eRB_28_3 => simp only [List.getElem?_toArray, List.getElem?_cons_succ, List.getElem?_cons_zero]; rfl
                go_simp
                (go_at_call 50; refine Calls.mono (rfile_at _ _ f (.slice la f.least.length lc) (.slice ma f.most.length mc) v.next _ (HVL3.out.below HD0.out) (HVM3.out.below HD0.out) HR.out) ?_; rintro _ y1 ⟨rfl, hb1⟩; have HD1 : Hid (Below w3.heap.size w3 y1) := HD0.out.trans (hb1.mono HD0.out.size))
                try go_wp2_with fail
                refine hK.out _ _ (HKP.out _ HD1.out) (fun hHeld => ?_)
                clear hK hOld
                try simp only [Act.put, List.setIfInBounds_toArray, List.set_cons_zero, List.set_cons_succ]
                refine wpAnyH_take (i := 4) (oi := ?oRB_29_4) (v := ?vRB_29_4) ?eRB_29_4 (by kernel_rfl) (by kernel_rfl) (by kernel_rfl) ?qRB_29_4 (Or.inl ⟨?wRB_29_4, ?yRB_29_4⟩) (by assumption) ?rRB_29_4
                case eRB_29_4 => simp only [List.getElem?_toArray, List.getElem?_cons_succ, List.getElem?_cons_zero]; rfl
                case wRB_29_4 => rfl
                case qRB_29_4 => exact fun _ _ _ h => h
                case yRB_29_4 => (intro w hSw; (try dsimp only at hSw); go_simp; try with_reducible rfl)
                try simp only [Act.put, List.setIfInBounds_toArray, List.set_cons_zero, List.set_cons_succ]
                refine wpAnyH_take (i := 5) (oi := ?oRB_30_5) (v := ?vRB_30_5) ?eRB_30_5 (by kernel_rfl) (by kernel_rfl) (by kernel_rfl) ?qRB_30_5 (Or.inl ⟨?wRB_30_5, ?yRB_30_5⟩) (by assumption) ?rRB_30_5
                case eRB_30_5 => simp only [List.getElem?_toArray, List.getElem?_cons_succ, List.getElem?_cons_zero]; rfl
                case wRB_30_5 => rfl
                case qRB_30_5 => exact fun _ _ _ h => h
                case yRB_30_5 => (intro w hSw; (try dsimp only at hSw); go_simp; try with_reducible rfl)
                try simp only [Act.put, List.setIfInBounds_toArray, List.set_cons_zero, List.set_cons_succ]
                refine wpAnyH_take (i := 6) (oi := ?oRB_31_6) (v := ?vRB_31_6) ?eRB_31_6 (by kernel_rfl) (by kernel_rfl) (by kernel_rfl) ?qRB_31_6 (Or.inl ⟨?wRB_31_6, ?yRB_31_6⟩) (by assumption) ?rRB_31_6
                case eRB_31_6 => simp only [List.getElem?_toArray, List.getElem?_cons_succ, List.getElem?_cons_zero]; rfl
                case wRB_31_6 => rfl
                case qRB_31_6 => exact fun _ _ _ h => h
                case yRB_31_6 => (intro w hSw; (try dsimp only at hSw); go_simp; try with_reducible rfl)
                try simp only [Act.put, List.setIfInBounds_toArray, List.set_cons_zero, List.set_cons_succ]
                refine wpAnyH_take (i := 7) (oi := ?oRB_32_7) (v := ?vRB_32_7) ?eRB_32_7 (by kernel_rfl) (by kernel_rfl) (by kernel_rfl) ?qRB_32_7 (Or.inl ⟨?wRB_32_7, ?yRB_32_7⟩) (by assumption) ?rRB_32_7
                case eRB_32_7 => simp only [List.getElem?_toArray, List.getElem?_cons_succ, List.getElem?_cons_zero]; rfl
                case wRB_32_7 => rfl
                case qRB_32_7 => exact fun _ _ _ h => h
                case yRB_32_7 => (intro w hSw; (try dsimp only at hSw); go_simp; try with_reducible rfl)
                try simp only [Act.put, List.setIfInBounds_toArray, List.set_cons_zero, List.set_cons_succ]
                refine wpAnyH_take (i := 8) (oi := ?oRB_33_8) (v := ?vRB_33_8) ?eRB_33_8 (by kernel_rfl) (by kernel_rfl) (by kernel_rfl) ?qRB_33_8 (Or.inl ⟨?wRB_33_8, ?yRB_33_8⟩) (by assumption) ?rRB_33_8
                case eRB_33_8 => simp only [List.getElem?_toArray, List.getElem?_cons_succ, List.getElem?_cons_zero]; rfl
                case wRB_33_8 => rfl
                case qRB_33_8 => exact fun _ _ _ h => h
                case yRB_33_8 => (intro w hSw; (try dsimp only at hSw); go_simp; try with_reducible rfl)
                try simp only [Act.put, List.setIfInBounds_toArray, List.set_cons_zero, List.set_cons_succ]
                refine wpAnyH_take (i := 9) (oi := ?oRB_34_9) (v := undef) ?eRB_34_9 (by kernel_rfl) (by kernel_rfl) (by kernel_rfl) ?qRB_34_9 (Or.inr ⟨?wRB_34_9, rfl⟩) (by assumption) ?rRB_34_9
                case eRB_34_9 => simp only [List.getElem?_toArray, List.getElem?_cons_succ, List.getElem?_cons_zero]; rfl
                case wRB_34_9 => rfl
                case qRB_34_9 => exact fun _ _ _ h => h
                try simp only [Act.put, List.setIfInBounds_toArray, List.set_cons_zero, List.set_cons_succ]
                refine wpAnyH_take (i := 10) (oi := ?oRB_35_10) (v := undef) ?eRB_35_10 (by kernel_rfl) (by kernel_rfl) (by kernel_rfl) ?qRB_35_10 (Or.inr ⟨?wRB_35_10, rfl⟩) (by assumption) ?rRB_35_10
                case eRB_35_10 => simp only [List.getElem?_toArray, List.getElem?_cons_succ, List.getElem?_cons_zero]; rfl
                case wRB_35_10 => rfl
                case qRB_35_10 => exact fun _ _ _ h => h
                try simp only [Act.put, List.setIfInBounds_toArray, List.set_cons_zero, List.set_cons_succ]
                refine wpAnyH_take (i := 11) (oi := ?oRB_36_11) (v := undef) ?eRB_36_11 (by kernel_rfl) (by kernel_rfl) (by kernel_rfl) ?qRB_36_11 (Or.inr ⟨?wRB_36_11, rfl⟩) (by assumption) ?rRB_36_11
                case eRB_36_11 => simp only [List.getElem?_toArray, List.getElem?_cons_succ, List.getElem?_cons_zero]; rfl
                case wRB_36_11 => rfl
                case qRB_36_11 => exact fun _ _ _ h => h
                try simp only [Act.put, List.setIfInBounds_toArray, List.set_cons_zero, List.set_cons_succ]
                refine wpAnyH_take (i := 12) (oi := ?oRB_37_12) (v := undef) ?eRB_37_12 (by kernel_rfl) (by kernel_rfl) (by kernel_rfl) ?qRB_37_12 (Or.inr ⟨?wRB_37_12, rfl⟩) (by assumption) ?rRB_37_12
                case eRB_37_12 => simp only [List.getElem?_toArray, List.getElem?_cons_succ, List.getElem?_cons_zero]; rfl
                case wRB_37_12 => rfl
                case qRB_37_12 => exact fun _ _ _ h => h
                try simp only [Act.put, List.setIfInBounds_toArray, List.set_cons_zero, List.set_cons_succ]
                refine wpAnyH_take (i := 13) (oi := ?oRB_38_13) (v := undef) ?eRB_38_13 (by kernel_rfl) (by kernel_rfl) (by kernel_rfl) ?qRB_38_13 (Or.inr ⟨?wRB_38_13, rfl⟩) (by assumption) ?rRB_38_13
                case eRB_38_13 => simp only [List.getElem?_toArray, List.getElem?_cons_succ, List.getElem?_cons_zero]; rfl
                case wRB_38_13 => rfl
                case qRB_38_13 => exact fun _ _ _ h => h
                try simp only [Act.put, List.setIfInBounds_toArray, List.set_cons_zero, List.set_cons_succ]
                refine wpAnyH_take (i := 14) (oi := ?oRB_39_14) (v := undef) ?eRB_39_14 (by kernel_rfl) (by kernel_rfl) (by kernel_rfl) ?qRB_39_14 (Or.inr ⟨?wRB_39_14, rfl⟩) (by assumption) ?rRB_39_14
                case eRB_39_14 => simp only [List.getElem?_toArray, List.getElem?_cons_succ, List.getElem?_cons_zero]; rfl
                case wRB_39_14 => rfl
                case qRB_39_14 => exact fun _ _ _ h => h
                try simp only [Act.put, List.setIfInBounds_toArray, List.set_cons_zero, List.set_cons_succ]
                refine wpAnyH_take (i := 15) (oi := ?oRB_40_15) (v := undef) ?eRB_40_15 (by kernel_rfl) (by kernel_rfl) (by kernel_rfl) ?qRB_40_15 (Or.inr ⟨?wRB_40_15, rfl⟩) (by assumption) ?rRB_40_15
                case eRB_40_15 => simp only [List.getElem?_toArray, List.getElem?_cons_succ, List.getElem?_cons_zero]; rfl
                case wRB_40_15 => rfl
                case qRB_40_15 => exact fun _ _ _ h => h
                try simp only [Act.put, List.setIfInBounds_toArray, List.set_cons_zero, List.set_cons_succ]
                refine wpAnyH_take (i := 16) (oi := ?oRB_41_16) (v := undef) ?eRB_41_16 (by kernel_rfl) (by kernel_rfl) (by kernel_rfl) ?qRB_41_16 (Or.inr ⟨?wRB_41_16, rfl⟩) (by assumption) ?rRB_41_16
                case eRB_41_16 => simp only [List.getElem?_toArray, List.getElem?_cons_succ, List.getElem?_cons_zero]; rfl
                case wRB_41_16 => rfl
                case qRB_41_16 => exact fun _ _ _ h => h
                try simp only [Act.put, List.setIfInBounds_toArray, List.set_cons_zero, List.set_cons_succ]
                refine wpAnyH_take (i := 17) (oi := ?oRB_42_17) (v := undef) ?eRB_42_17 (by kernel_rfl) (by kernel_rfl) (by kernel_rfl) ?qRB_42_17 (Or.inr ⟨?wRB_42_17, rfl⟩) (by assumption) ?rRB_42_17
                case eRB_42_17 => simp only [List.getElem?_toArray, List.getElem?_cons_succ, List.getElem?_cons_zero]; rfl
                case wRB_42_17 => rfl
                case qRB_42_17 => exact fun _ _ _ h => h
                try simp only [Act.put, List.setIfInBounds_toArray, List.set_cons_zero, List.set_cons_succ]
                refine wpAnyH_take (i := 18) (oi := ?oRB_43_18) (v := undef) ?eRB_43_18 (by kernel_rfl) (by kernel_rfl) (by kernel_rfl) ?qRB_43_18 (Or.inr ⟨?wRB_43_18, rfl⟩) (by assumption) ?rRB_43_18
                case eRB_43_18 => simp only [List.getElem?_toArray, List.getElem?_cons_succ, List.getElem?_cons_zero]; rfl
                case wRB_43_18 => rfl
                case qRB_43_18 => exact fun _ _ _ h => h
                try simp only [Act.put, List.setIfInBounds_toArray, List.set_cons_zero, List.set_cons_succ]
                refine wpAnyH_take (i := 19) (oi := ?oRB_44_19) (v := undef) ?eRB_44_19 (by kernel_rfl) (by kernel_rfl) (by kernel_rfl) ?qRB_44_19 (Or.inr ⟨?wRB_44_19, rfl⟩) (by assumption) ?rRB_44_19
                case eRB_44_19 => simp only [List.getElem?_toArray, List.getElem?_cons_succ, List.getElem?_cons_zero]; rfl
                case wRB_44_19 => rfl
                case qRB_44_19 => exact fun _ _ _ h => h
                try simp only [Act.put, List.setIfInBounds_toArray, List.set_cons_zero, List.set_cons_succ]
                refine wpAnyH_take (i := 20) (oi := ?oRB_45_20) (v := undef) ?eRB_45_20 (by kernel_rfl) (by kernel_rfl) (by kernel_rfl) ?qRB_45_20 (Or.inr ⟨?wRB_45_20, rfl⟩) (by assumption) ?rRB_45_20
                case eRB_45_20 => simp only [List.getElem?_toArray, List.getElem?_cons_succ, List.getElem?_cons_zero]; rfl
                case wRB_45_20 => rfl
                case qRB_45_20 => exact fun _ _ _ h => h
                try simp only [Act.put, List.setIfInBounds_toArray, List.set_cons_zero, List.set_cons_succ]
                refine wpAnyH_take (i := 21) (oi := ?oRB_46_21) (v := undef) ?eRB_46_21 (by kernel_rfl) (by kernel_rfl) (by kernel_rfl) ?qRB_46_21 (Or.inr ⟨?wRB_46_21, rfl⟩) (by assumption) ?rRB_46_21
                case eRB_46_21 => simp only [List.getElem?_toArray, List.getElem?_cons_succ, List.getElem?_cons_zero]; rfl
                case wRB_46_21 => rfl
                case qRB_46_21 => exact fun _ _ _ h => h
                try simp only [Act.put, List.setIfInBounds_toArray, List.set_cons_zero, List.set_cons_succ]
                refine wpAnyH_take (i := 22) (oi := ?oRB_47_22) (v := ?vRB_47_22) ?eRB_47_22 (by kernel_rfl) (by kernel_rfl) (by kernel_rfl) ?qRB_47_22 (Or.inl ⟨?wRB_47_22, ?yRB_47_22⟩) (by assumption) ?rRB_47_22
                case eRB_47_22 => simp only [List.getElem?_toArray, List.getElem?_cons_succ, List.getElem?_cons_zero]; rfl
                case wRB_47_22 => rfl
                case qRB_47_22 => exact fun _ _ _ h => h
                case yRB_47_22 => (intro w hSw; (try dsimp only at hSw); go_simp; try with_reducible rfl)
                try simp only [Act.put, List.setIfInBounds_toArray, List.set_cons_zero, List.set_cons_succ]
                refine wpAnyH_take (i := 23) (oi := ?oRB_48_23) (v := ?vRB_48_23) ?eRB_48_23 (by kernel_rfl) (by kernel_rfl) (by kernel_rfl) ?qRB_48_23 (Or.inl ⟨?wRB_48_23, ?yRB_48_23⟩) (by assumption) ?rRB_48_23
                case eRB_48_23 => simp only [List.getElem?_toArray, List.getElem?_cons_succ, List.getElem?_cons_zero]; rfl
                case wRB_48_23 => rfl
                case qRB_48_23 => exact fun _ _ _ h => h
                case yRB_48_23 => (intro w hSw; (try dsimp only at hSw); go_simp; try with_reducible rfl)
                try simp only [Act.put, List.setIfInBounds_toArray, List.set_cons_zero, List.set_cons_succ]
                refine wpAnyH_done (by kernel_rfl) ?_ _
                clear hHeld HKP
                go_wp2_with fail
                go_meet
                exact ⟨⟨false, rfl, by show _ ↔ _; exact ⟨fun _ => ⟨HFI.out.1, HFI.out.2, fun h => absurd h HK0.out⟩, fun _ => rfl⟩⟩, HD1.out⟩
              obtain ⟨k1, hk1⟩ : ∃ k1, k = k1 + 1 := ⟨k - 1, by omega⟩
              have hk2 : k - 1 = k1 := by omega
              obtain ⟨pl, pm, hpl, hpm, _, hpc⟩ := hcf2.out k1 (by rw [HLN.out]; omega)
              obtain ⟨p, hp⟩ : ∃ p, fat (lat v.levels i) k1 = p := ⟨_, rfl⟩
              rw [hp] at hpl hpm hpc
              have HPP : Hid (fat (lat v.levels i) (k - 1) = p) := by show _ = _; rw [hk2, hp]
              obtain ⟨qa, qc, rfl⟩ := hpl.isSlice
              obtain ⟨ra, rc, rfl⟩ := hpm.isSlice
              have HPC := Lib.hid (hpc.keep HB3.out HBF.out)
              have HPL := Lib.hid (hpl.below HB3.out)
              have HPM := Lib.hid (hpm.below HB3.out)
              have t10 : IntKind.i64.wrap ((k : Int) - 1) = (k1 : Int) := by rw [wrap_small (by omega) (by omega)]; omega
              have t11 : IntKind.i64.wrap (k1 : Int) = (k1 : Int) := wrap_small (by omega) (by omega)
              have t12 : (k1 : Int) < (n : Int) := by omega
              have t13 : 0 ≤ (k1 : Int) := by omega
              have t14 : 0 < (k : Int) := by omega
              have t15 : 0 < k := hk0
              have c9 : w3.cell? ⟨bl, ol + i, none⟩ = some (.slice (some ⟨bf, of, none⟩) n uc) := (HB3.out.cell (p := ⟨bl, ol + i, none⟩) HBL.out).trans HC0.out
              have HC9 := Lib.hid c9
              obtain ⟨rb, hrb⟩ : ∃ r, behindB i p f = r := ⟨_, rfl⟩
              have HRB := Lib.hid hrb
              have HBB : Hid (((!rb) = false) ↔ f.Fine ∧ f.num < v.next ∧ (0 < k → behind i (fat (lat v.levels i) (k - 1)) f)) := by
                show _ ↔ _
                rw [HPP.out]
                constructor
                · intro h
                  refine ⟨HFI.out.1, HFI.out.2, fun _ => behindB_iff.1 ?_⟩
                  rw [hrb]
                  cases rb with
                  | true => rfl
                  | false => cases h
                · intro h
                  have h5 := behindB_iff.2 (h.2.2 hk0)
                  rw [hrb] at h5
                  rw [h5]
                  rfl
              clear hpl hpm hpc hp hk1 hk2 hk0 hrb c9
              have HKP : Hid (∀ W, Below w3.heap.size w3 W → (W.cell? ⟨fb, 0, none⟩ = some (.int .u64 f.num) ∧ W.cell? ⟨fb, 1, none⟩ = some (.int .i64 f.size) ∧ W.cell? ⟨fb, 2, none⟩ = some (.slice la f.least.length lc) ∧ W.cell? ⟨fb, 3, none⟩ = some (.slice ma f.most.length mc) ∧ W.cell? ⟨fb, 4, none⟩ = some (.int .i64 f.ents) ∧ W.cell? ⟨fb, 5, none⟩ = some (.int .u64 f.mseq) ∧ W.cell? ⟨xb, 0, none⟩ = some (.slice (some ⟨bl, ol, none⟩) 5 ca) ∧ W.cell? ⟨xb, 1, none⟩ = some (.int .u64 v.next) ∧ W.cell? ⟨bl, ol + i, none⟩ = some (.slice (some ⟨bf, of, none⟩) n uc) ∧ W.cell? ⟨bf, of + k1 * 6, none⟩ = some (.int .u64 p.num) ∧ W.cell? ⟨bf, of + k1 * 6 + 1, none⟩ = some (.int .i64 p.size) ∧ W.cell? ⟨bf, of + k1 * 6 + 2, none⟩ = some (.slice qa p.least.length qc) ∧ W.cell? ⟨bf, of + k1 * 6 + 3, none⟩ = some (.slice ra p.most.length rc) ∧ W.cell? ⟨bf, of + k1 * 6 + 4, none⟩ = some (.int .i64 p.ents) ∧ W.cell? ⟨bf, of + k1 * 6 + 5, none⟩ = some (.int .u64 p.mseq))) := fun W hb =>
                have hbf3 : bf < w3.heap.size := Nat.lt_of_lt_of_le HBF.out HB3.out.size
                have h6 := HPC.out.keep hb hbf3
                ⟨(HE3.out.below hb HE3.out.lt).cell rfl, (HE3.out.below hb HE3.out.lt).cell rfl, (HE3.out.below hb HE3.out.lt).cell rfl, (HE3.out.below hb HE3.out.lt).cell rfl, (HE3.out.below hb HE3.out.lt).cell rfl, (HE3.out.below hb HE3.out.lt).cell rfl, (HX3.out.below hb HX3.out.lt).cell rfl, (HX3.out.below hb HX3.out.lt).cell rfl, (hb.cell (p := ⟨bl, ol + i, none⟩) (Nat.lt_of_lt_of_le HBL.out HB3.out.size)).trans HC9.out, h6.1, h6.2.1, h6.2.2.1, h6.2.2.2.1, h6.2.2.2.2.1, h6.2.2.2.2.2⟩
              refine wp_region_held_drew (S := fun w' => (w'.cell? ⟨fb, 0, none⟩ = some (.int .u64 f.num) ∧ w'.cell? ⟨fb, 1, none⟩ = some (.int .i64 f.size) ∧ w'.cell? ⟨fb, 2, none⟩ = some (.slice la f.least.length lc) ∧ w'.cell? ⟨fb, 3, none⟩ = some (.slice ma f.most.length mc) ∧ w'.cell? ⟨fb, 4, none⟩ = some (.int .i64 f.ents) ∧ w'.cell? ⟨fb, 5, none⟩ = some (.int .u64 f.mseq) ∧ w'.cell? ⟨xb, 0, none⟩ = some (.slice (some ⟨bl, ol, none⟩) 5 ca) ∧ w'.cell? ⟨xb, 1, none⟩ = some (.int .u64 v.next) ∧ w'.cell? ⟨bl, ol + i, none⟩ = some (.slice (some ⟨bf, of, none⟩) n uc) ∧ w'.cell? ⟨bf, of + k1 * 6, none⟩ = some (.int .u64 p.num) ∧ w'.cell? ⟨bf, of + k1 * 6 + 1, none⟩ = some (.int .i64 p.size) ∧ w'.cell? ⟨bf, of + k1 * 6 + 2, none⟩ = some (.slice qa p.least.length qc) ∧ w'.cell? ⟨bf, of + k1 * 6 + 3, none⟩ = some (.slice ra p.most.length rc) ∧ w'.cell? ⟨bf, of + k1 * 6 + 4, none⟩ = some (.int .i64 p.ents) ∧ w'.cell? ⟨bf, of + k1 * 6 + 5, none⟩ = some (.int .u64 p.mseq))) (by kernel_rfl) (HKP.out _ HD0.out) (fun hHeld => ?_)
              refine wpAnyH_take (i := 0) (oi := ?oRC_49_0) (v := ?vRC_49_0) ?eRC_49_0 (by kernel_rfl) (by kernel_rfl) (by kernel_rfl) ?qRC_49_0 (Or.inl ⟨?wRC_49_0, ?yRC_49_0⟩) (by assumption) ?rRC_49_0
              case eRC_49_0 => simp only [List.getElem?_toArray, List.getElem?_cons_zero]; rfl
              case wRC_49_0 => rfl
              case qRC_49_0 => exact fun _ _ _ h => h
              case yRC_49_0 => (intro w hSw; (try dsimp only at hSw); go_simp; try with_reducible rfl)
              try simp only [Act.put, List.setIfInBounds_toArray, List.set_cons_zero, List.set_cons_succ]
              refine wpAnyH_take (i := 1) (oi := ?oRC_50_1) (v := ?vRC_50_1) ?eRC_50_1 (by kernel_rfl) (by kernel_rfl) (by kernel_rfl) ?qRC_50_1 (Or.inl ⟨?wRC_50_1, ?yRC_50_1⟩) (by assumption) ?rRC_50_1
              case eRC_50_1 => simp only [List.getElem?_toArray, List.getElem?_cons_succ, List.getElem?_cons_zero]; rfl
              case wRC_50_1 => rfl
              case qRC_50_1 => exact fun _ _ _ h => h
              case yRC_50_1 => (intro w hSw; (try dsimp only at hSw); go_simp; try with_reducible rfl)
              try simp only [Act.put, List.setIfInBounds_toArray, List.set_cons_zero, List.set_cons_succ]
              refine wpAnyH_take (i := 2) (oi := ?oRC_51_2) (v := ?vRC_51_2) ?eRC_51_2 (by kernel_rfl) (by kernel_rfl) (by kernel_rfl) ?qRC_51_2 (Or.inl ⟨?wRC_51_2, ?yRC_51_2⟩) (by assumption) ?rRC_51_2
              case eRC_51_2 => simp only [List.getElem?_toArray, List.getElem?_cons_succ, List.getElem?_cons_zero]; rfl
              case wRC_51_2 => rfl
              case qRC_51_2 => exact fun _ _ _ h => h
              case yRC_51_2 => (intro w hSw; (try dsimp only at hSw); go_simp; try with_reducible rfl)
              try simp only [Act.put, List.setIfInBounds_toArray, List.set_cons_zero, List.set_cons_succ]
              have hOld := hHeld
              clear hHeld
              refine wpAnyH_ready (rs := [3]) (by kernel_rfl) (by simp) ?_
              refine AllReadyH.cons (o := ?oRC_52_3) ?eRC_52_3 (fun K hK => ?_) AllReadyH.nil
              case eRC_52_3 => simp only [List.getElem?_toArray, List.getElem?_cons_succ, List.getElem?_cons_zero]; rfl
              go_simp
              (go_at_call 50; refine Calls.mono (rfile_at _ _ f (.slice la f.least.length lc) (.slice ma f.most.length mc) v.next _ (HVL3.out.below HD0.out) (HVM3.out.below HD0.out) HR.out) ?_; rintro _ y1 ⟨rfl, hb1⟩; have HD1 : Hid (Below w3.heap.size w3 y1) := HD0.out.trans (hb1.mono HD0.out.size))
              try go_wp2_with fail
              refine hK.out _ _ (HKP.out _ HD1.out) (fun hHeld => ?_)
              clear hK hOld
              try simp only [Act.put, List.setIfInBounds_toArray, List.set_cons_zero, List.set_cons_succ]
              refine wpAnyH_take (i := 4) (oi := ?oRC_53_4) (v := ?vRC_53_4) ?eRC_53_4 (by kernel_rfl) (by kernel_rfl) (by kernel_rfl) ?qRC_53_4 (Or.inl ⟨?wRC_53_4, ?yRC_53_4⟩) (by assumption) ?rRC_53_4
              case eRC_53_4 => simp only [List.getElem?_toArray, List.getElem?_cons_succ, List.getElem?_cons_zero]; rfl
              case wRC_53_4 => rfl
              case qRC_53_4 => exact fun _ _ _ h => h
              case yRC_53_4 => (intro w hSw; (try dsimp only at hSw); go_simp; try with_reducible rfl)
              try simp only [Act.put, List.setIfInBounds_toArray, List.set_cons_zero, List.set_cons_succ]
              refine wpAnyH_take (i := 5) (oi := ?oRC_54_5) (v := ?vRC_54_5) ?eRC_54_5 (by kernel_rfl) (by kernel_rfl) (by kernel_rfl) ?qRC_54_5 (Or.inl ⟨?wRC_54_5, ?yRC_54_5⟩) (by assumption) ?rRC_54_5
              case eRC_54_5 => simp only [List.getElem?_toArray, List.getElem?_cons_succ, List.getElem?_cons_zero]; rfl
              case wRC_54_5 => rfl
              case qRC_54_5 => exact fun _ _ _ h => h
              case yRC_54_5 => (intro w hSw; (try dsimp only at hSw); go_simp; try with_reducible rfl)
              try simp only [Act.put, List.setIfInBounds_toArray, List.set_cons_zero, List.set_cons_succ]
              refine wpAnyH_take (i := 6) (oi := ?oRC_55_6) (v := ?vRC_55_6) ?eRC_55_6 (by kernel_rfl) (by kernel_rfl) (by kernel_rfl) ?qRC_55_6 (Or.inl ⟨?wRC_55_6, ?yRC_55_6⟩) (by assumption) ?rRC_55_6
              case eRC_55_6 => simp only [List.getElem?_toArray, List.getElem?_cons_succ, List.getElem?_cons_zero]; rfl
              case wRC_55_6 => rfl
              case qRC_55_6 => exact fun _ _ _ h => h
              case yRC_55_6 => (intro w hSw; (try dsimp only at hSw); go_simp; try with_reducible rfl)
              try simp only [Act.put, List.setIfInBounds_toArray, List.set_cons_zero, List.set_cons_succ]
              refine wpAnyH_take (i := 7) (oi := ?oRC_56_7) (v := ?vRC_56_7) ?eRC_56_7 (by kernel_rfl) (by kernel_rfl) (by kernel_rfl) ?qRC_56_7 (Or.inl ⟨?wRC_56_7, ?yRC_56_7⟩) (by assumption) ?rRC_56_7
              case eRC_56_7 => simp only [List.getElem?_toArray, List.getElem?_cons_succ, List.getElem?_cons_zero]; rfl
              case wRC_56_7 => rfl
              case qRC_56_7 => exact fun _ _ _ h => h
              case yRC_56_7 => (intro w hSw; (try dsimp only at hSw); go_simp; try with_reducible rfl)
              try simp only [Act.put, List.setIfInBounds_toArray, List.set_cons_zero, List.set_cons_succ]
              refine wpAnyH_take (i := 8) (oi := ?oRC_57_8) (v := ?vRC_57_8) ?eRC_57_8 (by kernel_rfl) (by kernel_rfl) (by kernel_rfl) ?qRC_57_8 (Or.inl ⟨?wRC_57_8, ?yRC_57_8⟩) (by assumption) ?rRC_57_8
              case eRC_57_8 => simp only [List.getElem?_toArray, List.getElem?_cons_succ, List.getElem?_cons_zero]; rfl
              case wRC_57_8 => rfl
              case qRC_57_8 => exact fun _ _ _ h => h
              case yRC_57_8 => (intro w hSw; (try dsimp only at hSw); go_simp; try with_reducible rfl)
              try simp only [Act.put, List.setIfInBounds_toArray, List.set_cons_zero, List.set_cons_succ]
              refine wpAnyH_take (i := 9) (oi := ?oRC_58_9) (v := ?vRC_58_9) ?eRC_58_9 (by kernel_rfl) (by kernel_rfl) (by kernel_rfl) ?qRC_58_9 (Or.inl ⟨?wRC_58_9, ?yRC_58_9⟩) (by assumption) ?rRC_58_9
              case eRC_58_9 => simp only [List.getElem?_toArray, List.getElem?_cons_succ, List.getElem?_cons_zero]; rfl
              case wRC_58_9 => rfl
              case qRC_58_9 => exact fun _ _ _ h => h
              case yRC_58_9 => (intro w hSw; (try dsimp only at hSw); go_simp; try with_reducible rfl)
              try simp only [Act.put, List.setIfInBounds_toArray, List.set_cons_zero, List.set_cons_succ]
              refine wpAnyH_take (i := 10) (oi := ?oRC_59_10) (v := ?vRC_59_10) ?eRC_59_10 (by kernel_rfl) (by kernel_rfl) (by kernel_rfl) ?qRC_59_10 (Or.inl ⟨?wRC_59_10, ?yRC_59_10⟩) (by assumption) ?rRC_59_10
              case eRC_59_10 => simp only [List.getElem?_toArray, List.getElem?_cons_succ, List.getElem?_cons_zero]; rfl
              case wRC_59_10 => rfl
              case qRC_59_10 => exact fun _ _ _ h => h
              case yRC_59_10 => (intro w hSw; (try dsimp only at hSw); go_simp; try with_reducible rfl)
              try simp only [Act.put, List.setIfInBounds_toArray, List.set_cons_zero, List.set_cons_succ]
              refine wpAnyH_take (i := 11) (oi := ?oRC_60_11) (v := ?vRC_60_11) ?eRC_60_11 (by kernel_rfl) (by kernel_rfl) (by kernel_rfl) ?qRC_60_11 (Or.inl ⟨?wRC_60_11, ?yRC_60_11⟩) (by assumption) ?rRC_60_11
              case eRC_60_11 => simp only [List.getElem?_toArray, List.getElem?_cons_succ, List.getElem?_cons_zero]; rfl
              case wRC_60_11 => rfl
              case qRC_60_11 => exact fun _ _ _ h => h
              case yRC_60_11 => (intro w hSw; (try dsimp only at hSw); go_simp; try with_reducible rfl)
              try simp only [Act.put, List.setIfInBounds_toArray, List.set_cons_zero, List.set_cons_succ]
              refine wpAnyH_take (i := 12) (oi := ?oRC_61_12) (v := ?vRC_61_12) ?eRC_61_12 (by kernel_rfl) (by kernel_rfl) (by kernel_rfl) ?qRC_61_12 (Or.inl ⟨?wRC_61_12, ?yRC_61_12⟩) (by assumption) ?rRC_61_12
              case eRC_61_12 => simp only [List.getElem?_toArray, List.getElem?_cons_succ, List.getElem?_cons_zero]; rfl
              case wRC_61_12 => rfl
              case qRC_61_12 => exact fun _ _ _ h => h
              case yRC_61_12 => (intro w hSw; (try dsimp only at hSw); go_simp; try with_reducible rfl)
              try simp only [Act.put, List.setIfInBounds_toArray, List.set_cons_zero, List.set_cons_succ]
              refine wpAnyH_take (i := 13) (oi := ?oRC_62_13) (v := ?vRC_62_13) ?eRC_62_13 (by kernel_rfl) (by kernel_rfl) (by kernel_rfl) ?qRC_62_13 (Or.inl ⟨?wRC_62_13, ?yRC_62_13⟩) (by assumption) ?rRC_62_13
              case eRC_62_13 => simp only [List.getElem?_toArray, List.getElem?_cons_succ, List.getElem?_cons_zero]; rfl
              case wRC_62_13 => rfl
              case qRC_62_13 => exact fun _ _ _ h => h
              case yRC_62_13 => (intro w hSw; (try dsimp only at hSw); go_simp; try with_reducible rfl)
              try simp only [Act.put, List.setIfInBounds_toArray, List.set_cons_zero, List.set_cons_succ]
              refine wpAnyH_take (i := 14) (oi := ?oRC_63_14) (v := ?vRC_63_14) ?eRC_63_14 (by kernel_rfl) (by kernel_rfl) (by kernel_rfl) ?qRC_63_14 (Or.inl ⟨?wRC_63_14, ?yRC_63_14⟩) (by assumption) ?rRC_63_14
              case eRC_63_14 => simp only [List.getElem?_toArray, List.getElem?_cons_succ, List.getElem?_cons_zero]; rfl
              case wRC_63_14 => rfl
              case qRC_63_14 => exact fun _ _ _ h => h
              case yRC_63_14 => (intro w hSw; (try dsimp only at hSw); go_simp; try with_reducible rfl)
              try simp only [Act.put, List.setIfInBounds_toArray, List.set_cons_zero, List.set_cons_succ]
              refine wpAnyH_take (i := 15) (oi := ?oRC_64_15) (v := ?vRC_64_15) ?eRC_64_15 (by kernel_rfl) (by kernel_rfl) (by kernel_rfl) ?qRC_64_15 (Or.inl ⟨?wRC_64_15, ?yRC_64_15⟩) (by assumption) ?rRC_64_15
              case eRC_64_15 => simp only [List.getElem?_toArray, List.getElem?_cons_succ, List.getElem?_cons_zero]; rfl
              case wRC_64_15 => rfl
              case qRC_64_15 => exact fun _ _ _ h => h
              case yRC_64_15 => (intro w hSw; (try dsimp only at hSw); go_simp; try with_reducible rfl)
              try simp only [Act.put, List.setIfInBounds_toArray, List.set_cons_zero, List.set_cons_succ]
              refine wpAnyH_take (i := 16) (oi := ?oRC_65_16) (v := ?vRC_65_16) ?eRC_65_16 (by kernel_rfl) (by kernel_rfl) (by kernel_rfl) ?qRC_65_16 (Or.inl ⟨?wRC_65_16, ?yRC_65_16⟩) (by assumption) ?rRC_65_16
              case eRC_65_16 => simp only [List.getElem?_toArray, List.getElem?_cons_succ, List.getElem?_cons_zero]; rfl
              case wRC_65_16 => rfl
              case qRC_65_16 => exact fun _ _ _ h => h
              case yRC_65_16 => (intro w hSw; (try dsimp only at hSw); go_simp; try with_reducible rfl)
              try simp only [Act.put, List.setIfInBounds_toArray, List.set_cons_zero, List.set_cons_succ]
              refine wpAnyH_take (i := 17) (oi := ?oRC_66_17) (v := ?vRC_66_17) ?eRC_66_17 (by kernel_rfl) (by kernel_rfl) (by kernel_rfl) ?qRC_66_17 (Or.inl ⟨?wRC_66_17, ?yRC_66_17⟩) (by assumption) ?rRC_66_17
              case eRC_66_17 => simp only [List.getElem?_toArray, List.getElem?_cons_succ, List.getElem?_cons_zero]; rfl
              case wRC_66_17 => rfl
              case qRC_66_17 => exact fun _ _ _ h => h
              case yRC_66_17 => (intro w hSw; (try dsimp only at hSw); go_simp; try with_reducible rfl)
              try simp only [Act.put, List.setIfInBounds_toArray, List.set_cons_zero, List.set_cons_succ]
              refine wpAnyH_take (i := 18) (oi := ?oRC_67_18) (v := ?vRC_67_18) ?eRC_67_18 (by kernel_rfl) (by kernel_rfl) (by kernel_rfl) ?qRC_67_18 (Or.inl ⟨?wRC_67_18, ?yRC_67_18⟩) (by assumption) ?rRC_67_18
              case eRC_67_18 => simp only [List.getElem?_toArray, List.getElem?_cons_succ, List.getElem?_cons_zero]; rfl
              case wRC_67_18 => rfl
              case qRC_67_18 => exact fun _ _ _ h => h
              case yRC_67_18 => (intro w hSw; (try dsimp only at hSw); go_simp; try with_reducible rfl)
              try simp only [Act.put, List.setIfInBounds_toArray, List.set_cons_zero, List.set_cons_succ]
              refine wpAnyH_take (i := 19) (oi := ?oRC_68_19) (v := ?vRC_68_19) ?eRC_68_19 (by kernel_rfl) (by kernel_rfl) (by kernel_rfl) ?qRC_68_19 (Or.inl ⟨?wRC_68_19, ?yRC_68_19⟩) (by assumption) ?rRC_68_19
              case eRC_68_19 => simp only [List.getElem?_toArray, List.getElem?_cons_succ, List.getElem?_cons_zero]; rfl
              case wRC_68_19 => rfl
              case qRC_68_19 => exact fun _ _ _ h => h
              case yRC_68_19 => (intro w hSw; (try dsimp only at hSw); go_simp; try with_reducible rfl)
              try simp only [Act.put, List.setIfInBounds_toArray, List.set_cons_zero, List.set_cons_succ]
              have hOld := hHeld
              clear hHeld
              refine wpAnyH_ready (rs := [20]) (by kernel_rfl) (by simp) ?_
              refine AllReadyH.cons (o := ?oRC_69_20) ?eRC_69_20 (fun K hK => ?_) AllReadyH.nil
              case eRC_69_20 => simp only [List.getElem?_toArray, List.getElem?_cons_succ, List.getElem?_cons_zero]; rfl
              go_simp
              (go_at_call 51; refine Calls.mono (rbehind_at _ _ _ _ i p f (.slice qa p.least.length qc) (.slice ra p.most.length rc) (.slice la f.least.length lc) (.slice ma f.most.length mc) _ (HPL.out.below HD1.out) (HPM.out.below HD1.out) (HVL3.out.below HD1.out) (HVM3.out.below HD1.out) HRB.out) ?_; rintro _ y2 ⟨rfl, hb2⟩; have HD2 : Hid (Below w3.heap.size w3 y2) := HD1.out.trans (hb2.mono HD1.out.size))
              try go_wp2_with fail
              refine hK.out _ _ (HKP.out _ HD2.out) (fun hHeld => ?_)
              clear hK hOld
              try simp only [Act.put, List.setIfInBounds_toArray, List.set_cons_zero, List.set_cons_succ]
              refine wpAnyH_take (i := 21) (oi := ?oRC_70_21) (v := ?vRC_70_21) ?eRC_70_21 (by kernel_rfl) (by kernel_rfl) (by kernel_rfl) ?qRC_70_21 (Or.inl ⟨?wRC_70_21, ?yRC_70_21⟩) (by assumption) ?rRC_70_21
              case eRC_70_21 => simp only [List.getElem?_toArray, List.getElem?_cons_succ, List.getElem?_cons_zero]; rfl
              case wRC_70_21 => rfl
              case qRC_70_21 => exact fun _ _ _ h => h
              case yRC_70_21 => (intro w hSw; (try dsimp only at hSw); go_simp; try with_reducible rfl)
              try simp only [Act.put, List.setIfInBounds_toArray, List.set_cons_zero, List.set_cons_succ]
              refine wpAnyH_take (i := 22) (oi := ?oRC_71_22) (v := ?vRC_71_22) ?eRC_71_22 (by kernel_rfl) (by kernel_rfl) (by kernel_rfl) ?qRC_71_22 (Or.inl ⟨?wRC_71_22, ?yRC_71_22⟩) (by assumption) ?rRC_71_22
              case eRC_71_22 => simp only [List.getElem?_toArray, List.getElem?_cons_succ, List.getElem?_cons_zero]; rfl
              case wRC_71_22 => rfl
              case qRC_71_22 => exact fun _ _ _ h => h
              case yRC_71_22 => (intro w hSw; (try dsimp only at hSw); go_simp; try with_reducible rfl)
              try simp only [Act.put, List.setIfInBounds_toArray, List.set_cons_zero, List.set_cons_succ]
              refine wpAnyH_take (i := 23) (oi := ?oRC_72_23) (v := ?vRC_72_23) ?eRC_72_23 (by kernel_rfl) (by kernel_rfl) (by kernel_rfl) ?qRC_72_23 (Or.inl ⟨?wRC_72_23, ?yRC_72_23⟩) (by assumption) ?rRC_72_23
              case eRC_72_23 => simp only [List.getElem?_toArray, List.getElem?_cons_succ, List.getElem?_cons_zero]; rfl
              case wRC_72_23 => rfl
              case qRC_72_23 => exact fun _ _ _ h => h
              case yRC_72_23 => (intro w hSw; (try dsimp only at hSw); go_simp; try with_reducible rfl)
              try simp only [Act.put, List.setIfInBounds_toArray, List.set_cons_zero, List.set_cons_succ]
              refine wpAnyH_done (by kernel_rfl) ?_ _
              clear hHeld HKP
              go_wp2_with fail
              go_meet
              exact ⟨⟨_, rfl, HBB.out⟩, HD2.out⟩
          case rest =>
            obtain ⟨⟨b, rfl, HBB⟩, HBc⟩ := hcut
            have HX4 := Lib.hid (HX3.out.below HBc.out HX3.out.lt)
            have HE4 : Hid (Blk wc fb (filCells f (.slice la f.least.length lc) (.slice ma f.most.length mc)).toArray 42) := HE3.out.below HBc.out HE3.out.lt
            have HB4 : Hid (Below w1.heap.size w1 wc) := HB3.out.trans (HBc.out.mono HB3.out.size)
            have HO4 := Lib.hid (HO3.out.below HBc.out)
            have HVL4 := Lib.hid (HVL3.out.below HBc.out)
            have HVM4 := Lib.hid (HVM3.out.below HBc.out)
            clear HX3 HE3 HB3 HO3 HVL3 HVM3 HBc hcf2
            cases b with
            | true =>
              have HFIN : Hid (chkW v = 2) := HBK.out fun h => by have h6 := HMK.out.1 h; have h5 := HBB.out.2 ⟨h6.1, h6.2.2.1, h6.2.2.2⟩; cases h5
              have HWE : Hid (Below w.heap.size w wc) := HW1.out.trans (HB4.out.mono HW1.out.size)
              go_wp2_with fail
              go_ret
              exact ⟨ret_int HFIN.out.symm, HWE.out⟩
            | false =>
              have HOKB := Lib.hid (HBB.out.1 rfl)
              clear HBB
              obtain ⟨N, hN⟩ : ∃ N, c + k = N := ⟨_, rfl⟩
              have HNN := Lib.hid hN
              rw [hN] at HO4 HALk ⊢
              have hNl : N ≤ 1000000 := by omega
              clear hN
              go_wp2_with fail
              go_loopw [7] (fun jv wr => ∃ (j : Nat), jv = .int .i64 (j : Int) ∧ j ≤ N ∧ Hid (∀ t, t < j → (fat xs t).num ≠ f.num) ∧ Hid (Below wc.heap.size wc wr)) (fun jv _ => N - (intOf jv).toNat)
              case atStart => exact ⟨0, rfl, by omega, (fun t ht => by omega), Below.refl _ _⟩
              case round =>
                obtain ⟨j, rfl, hj, HNE, HBj⟩ := hrel
                by_cases hjN : j < N
                · have t7 : (j : Int) < (N : Int) := by omega
                  have t8 : 0 ≤ (j : Int) := by omega
                  have hjl : j < xs.length := by rw [HALk.out]; exact hjN
                  obtain ⟨bx, ox, capx, ex, _, hbx, hcx⟩ := fils_at (HO4.out.below HBj.out).rows (by omega)
                  obtain ⟨_, _, _, _, _, d0, _, _, _, _, _⟩ := hcx j hjl
                  injection ex with e1 e2 e3
                  subst e1 e3
                  clear e2 hcx hbx
                  have HIN := Lib.hid (List.mem_map_of_mem (f := Fil.num) (fat_mem hjl))
                  have x0 : wr.cell? ⟨fb, 0, none⟩ = some (.int .u64 f.num) := (HE4.out.below HBj.out HE4.out.lt).cell rfl
                  obtain ⟨qn, hqn⟩ : ∃ q, (fat xs j).num = q := ⟨_, rfl⟩
                  have HQN := Lib.hid hqn
                  rw [hqn] at d0 HIN
                  have HBq : Hid (∀ n, Below wc.heap.size wc (wr.drewN n)) := fun n => below_dn HBj.out n
                  clear hqn hjl
                  by_cases heq : qn = f.num
                  · have HFIN : Hid (chkW v = 2) := HBK.out fun h => (HMK.out.1 h).2.1 (by rw [← heq]; exact HIN.out)
                    have HWE : Hid (∀ n, Below w.heap.size w (wr.drewN n)) := fun n => (HW1.out.trans (HB4.out.mono HW1.out.size)).trans ((HBq.out n).mono (Nat.le_trans HW1.out.size HB4.out.size))
                    have g7 : (qn == f.num) = true := by simpa using heq
                    clear heq
                    go_wp2_with fail
                    go_quiet (fail)
                    all_goals
                      go_wp2_with fail
                      go_ret
                      exact ⟨ret_int HFIN.out.symm, HWE.out _⟩
                  · have g7 : (qn == f.num) = false := by simpa using heq
                    have HNE2 : Hid (∀ t, t < j + 1 → (fat xs t).num ≠ f.num) := fun t ht => by
                      by_cases et : t = j
                      · rw [et, HQN.out]; exact heq
                      · exact HNE.out t (by omega)
                    clear heq
                    go_wp2_with fail
                    go_quiet (fail)
                    all_goals
                      go_wp2_with fail
                      go_roundw
                      · exact ⟨j + 1, by go_num, by omega, HNE2.out, HBq.out _⟩
                      · simp only [intOf]; omega
                · have t7 : ¬ (j : Int) < (N : Int) := by omega
                  have HNI : Hid (f.num ∉ xs.map Fil.num) := fun h => by
                    obtain ⟨g, hg, he⟩ := List.mem_map.1 h
                    obtain ⟨t, ht, rfl⟩ := List.mem_iff_getElem.1 hg
                    rw [fat_eq ht] at he
                    exact HNE.out t (by rw [HALk.out] at ht; omega) he
                  have HAN := Lib.hid (HOK.out (HMK.out.2 ⟨HOKB.out.1, HNI.out, HOKB.out.2.1, HOKB.out.2.2⟩))
                  have HX5 := Lib.hid (HX4.out.below HBj.out HX4.out.lt)
                  have HE5 : Hid (Blk wr fb (filCells f (.slice la f.least.length lc) (.slice ma f.most.length mc)).toArray 42) := HE4.out.below HBj.out HE4.out.lt
                  have HB5 : Hid (Below w1.heap.size w1 wr) := HB4.out.trans (HBj.out.mono HB4.out.size)
                  have HO5 := Lib.hid (HO4.out.below HBj.out)
                  have HVL5 := Lib.hid (HVL4.out.below HBj.out)
                  have HVM5 := Lib.hid (HVM4.out.below HBj.out)
                  clear HX4 HE4 HB4 HO4 HVL4 HVM4 HNE HBj HOK HMK HBK HOKB hjN hj
                  obtain ⟨c0, c1, c2, c3, c4, c5⟩ := C6.blk HE5.out
                  go_wp2_with (with_reducible refine pause_append ?_)
                  clear c0 c1 c2 c3 c4 c5
                  refine list_gen fun w6 hw6 => ?_
                  have HB6 : Hid (Below wr.heap.size wr w6) := by rw [hw6]; exact (Below.refl _ _).alloc (Nat.le_refl _) _
                  have HS6 : Hid (Blk w6 wr.heap.size (filCells f (.slice la f.least.length lc) (.slice ma f.most.length mc)).toArray 42) := by rw [hw6]; exact Blk.at_new rfl rfl
                  clear hw6
                  have HO6 := Lib.hid (HO5.out.below HB6.out)
                  have HLO : Hid (∀ k, k < w.heap.size → (Value.slice pa N pc).ownBlock ≠ some k) := fun k hk e => by
                    have h1 := (HO6.out.lt k e).1
                    have h2 := HW1.out.size
                    omega
                  have HSZ6 : Hid (w1.heap.size ≤ w6.heap.size) := Nat.le_trans HB5.out.size HB6.out.size
                  refine Pause.go (wpList_append_elF (K := filK) 33 42 _ 80 Try.underlying33 info_filO rfl (· < w.heap.size) w1.heap.size _ xs wr.heap.size 42 _ f rfl _ _ rfl rfl rfl HO6.out HS6.out ⟨_, _, rfl, (HVL5.out.below HB6.out).mono fun k _ hk => ⟨hk, HLO.out k hk⟩, (HVM5.out.below HB6.out).mono fun k _ hk => ⟨hk, HLO.out k hk⟩, HNU.out⟩ (by rw [HALk.out]; have := HNN.out; omega) (by decide) HSZ6.out ?_)
                  intro v7 w7 hro hg
                  obtain ⟨a7, c7, rfl⟩ := hro.isSlice
                  have hl7 : (xs ++ [f]).length = c + (k + 1) := by rw [List.length_append, HALk.out, ← HNN.out]; rfl
                  rw [hl7] at hro hg ⊢
                  have HO7 : Hid (ROwnF filK (· < w.heap.size) w1.heap.size 42 w7 (.slice a7 (c + (k + 1)) c7) (allF v.levels i (k + 1))) := by rw [HFMk.out]; exact hro
                  have hb67 : Below w1.heap.size w6 w7 := hg.below HSZ6.out fun k e => (HO6.out.lt k e).1
                  have HB7 : Hid (Below w1.heap.size w1 w7) := (HB5.out.trans (HB6.out.mono HB5.out.size)).trans hb67
                  have HX7 : Hid (Blk w7 xb (verCells v (.slice (some ⟨bl, ol, none⟩) 5 ca)).toArray 25) := (HX5.out.below HB6.out HX5.out.lt).below hb67 (by rw [← HXB.out]; exact HXLT.out)
                  clear hro hg hb67 hl7 HO6 HS6 HO5 HX5 HE5
                  go_wp2_with fail
                  go_roundw
                  · exact ⟨k + 1, a7, c7, by go_num, by omega, rfl, HO7.out, HAN.out, HX7.out, HB7.out⟩
                  · simp only [intOf]; omega
        · have t5 : ¬ (k : Int) < (n : Int) := by omega
          have hkn2 : k = n := by omega
          have HAN : Hid (AllTo v.next v.levels (i + 1) 0) := HCLO.out (by rw [← hkn2]; exact HATk.out)
          have HCE : Hid (c + k = cntTo v.levels (i + 1)) := by show _ = _; rw [HCN.out, HCC.out, hkn2]
          have HON : Hid (ROwnF filK (· < w.heap.size) w1.heap.size 42 wr (.slice pa (cntTo v.levels (i + 1)) pc) (allF v.levels (i + 1) 0)) := by
            have h1 := HOk.out
            rw [HCE.out, hkn2, HFC.out] at h1
            exact h1
          rw [HCE.out]
          clear HOk HATk hkn2
          go_wp2_with fail
          go_roundw
          · exact ⟨i + 1, pa, pc, by go_num, by omega, rfl, HON.out, HAN.out, HXk.out, HBk.out⟩
          · simp only [intOf]; omega
    · have t1 : ¬ (i : Int) < 5 := by omega
      have hi5 : i = 5 := by omega
      have HG : Hid (Good v) := by
        have h5 := HAT.out
        rw [hi5, ← HM.out] at h5
        exact h5
      have hcn : cntTo v.levels i = cntTo v.levels v.levels.length := by rw [hi5, HM.out]
      rw [hcn]
      obtain ⟨c, hc⟩ : ∃ c, cntTo v.levels v.levels.length = c := ⟨_, rfl⟩
      have HCC := Lib.hid hc
      rw [hc]
      have hcb : c ≤ 1000000 := by have := HFEW.out; rw [hc] at this; omega
      have HWE : Hid (Below w.heap.size w wr) := HW1.out.trans (HB.out.mono HW1.out.size)
      clear hcn hc hi5 HAT HO
      by_cases hlg : 10000 < c
      · have t2 : (10000 : Int) < (c : Int) := by omega
        have HFIN : Hid (chkW v = 3) := chkW_long HH.out HG.out (.inl (by rw [HCC.out]; exact hlg))
        clear hlg
        go_wp2_with fail
        go_ret
        exact ⟨ret_int HFIN.out.symm, HWE.out⟩
      · have t2 : decide ((10000 : Int) < (c : Int)) = false := decide_eq_false (by omega)
        have HLG := Lib.hid hlg
        have HLC := Lib.hid (rbytes_any _ v (.slice xa 5 ca) wr (HA.out.keep fun k _ hk => HWE.out.block k hk) HWF.out (by rw [HCC.out]; omega) (by rw [HM.out]; omega) HG.out.fine)
        unfold verCells at HLC
        have x1 : wr.cell? ⟨xb, 1, none⟩ = some (.int .u64 v.next) := HX.out.cell rfl
        have x2 : wr.cell? ⟨xb, 2, none⟩ = some (.int .u64 v.seq) := HX.out.cell rfl
        have x3 : wr.cell? ⟨xb, 3, none⟩ = some (.int .u64 v.log) := HX.out.cell rfl
        clear hlg
        go_wp2_with fail
        clear x0 x1 x2 x3
        refine Calls.mono HLC.out ?_
        rintro _ w5 ⟨rfl, hb⟩
        have HB5 : Hid (Below w.heap.size w w5) := HWE.out.trans (hb.mono HWE.out.size)
        clear hb HLC
        by_cases hl2 : 1048576 < lenV v
        · have t4 : (1048576 : Int) < (lenV v : Int) := by omega
          have HFIN : Hid (chkW v = 3) := chkW_long HH.out HG.out (.inr hl2)
          clear hl2
          go_wp2_with fail
          go_ret
          exact ⟨ret_int HFIN.out.symm, HB5.out⟩
        · have t4 : ¬ (1048576 : Int) < (lenV v : Int) := by omega
          have HFIN : Hid (chkW v = 0) := chkW_ok HH.out HG.out (by rw [HCC.out]; exact fun e => e.elim HLG.out hl2)
          clear hl2
          go_wp2_with fail
          go_ret
          exact ⟨ret_int HFIN.out.symm, HB5.out⟩
end Go.Proofs.Ytkcohhldmhdcfaa
