/- Chapter 12: (version.levels).clone. Chapter 12: version.Overlap, plain. Chapter 12: version.Overlap. -/
import Derived.Test.YtkcohhldmhdcfaaVzVeIa
namespace Go.Proofs.Ytkcohhldmhdcfaa
open Go.RowKit

/-- The first i levels, and k files of the next. -/
def upTo (ls : List (List Fil)) (i k : Nat) : List (List Fil) := (List.range 5).map fun j => if j < i then lat ls j else if j = i then (lat ls i).take k else []
theorem upTo_len (ls : List (List Fil)) (i k : Nat) : (upTo ls i k).length = 5 := by simp [upTo]
theorem upTo_get {ls : List (List Fil)} {i k j : Nat} (h : j < 5) : (upTo ls i k)[j]? = some (if j < i then lat ls j else if j = i then (lat ls i).take k else []) := by
  unfold upTo
  rw [List.getElem?_map, List.getElem?_range h]
  rfl
theorem upTo_at {ls : List (List Fil)} {i k : Nat} (h : i < 5) : (upTo ls i k).getD i [] = (lat ls i).take k := by
  rw [List.getD, upTo_get h]
  simp
theorem upTo_start (ls : List (List Fil)) : upTo ls 0 0 = [[], [], [], [], []] := by simp [upTo, List.range, List.range.loop]
theorem upTo_more {ls : List (List Fil)} {i k : Nat} (_h : i < 5) (hk : k < (lat ls i).length) : (upTo ls i k).set i ((lat ls i).take k ++ [fat (lat ls i) k]) = upTo ls i (k + 1) := by
  apply List.ext_getElem?
  intro j
  by_cases hj : j < 5
  · by_cases e : i = j
    · subst e
      rw [List.getElem?_set_self (by rw [upTo_len]; exact hj), upTo_get hj]
      simp only [Nat.lt_irrefl, if_false, if_true]
      rw [List.take_succ_eq_append_getElem hk, fat_eq hk]
    · rw [List.getElem?_set_ne e, upTo_get hj, upTo_get hj]
      by_cases h1 : j < i
      · simp only [h1, if_true]
      · simp only [h1, if_false]
        rw [if_neg (Ne.symm e), if_neg (Ne.symm e)]
  · rw [List.getElem?_eq_none (by rw [List.length_set, upTo_len]; omega), List.getElem?_eq_none (by rw [upTo_len]; omega)]
theorem upTo_next {ls : List (List Fil)} {i : Nat} : upTo ls i (lat ls i).length = upTo ls (i + 1) 0 := by
  apply List.ext_getElem?
  intro j
  by_cases hj : j < 5
  · rw [upTo_get hj, upTo_get hj]
    by_cases h1 : j < i
    · rw [if_pos h1, if_pos (by omega)]
    · rw [if_neg h1]
      by_cases e : j = i
      · subst e
        rw [if_pos rfl, if_pos (by omega), List.take_length]
      · rw [if_neg e, if_neg (by omega)]
        simp
  · rw [List.getElem?_eq_none (by rw [upTo_len]; omega), List.getElem?_eq_none (by rw [upTo_len]; omega)]
theorem upTo_end {ls : List (List Fil)} (h : ls.length = 5) : upTo ls 5 0 = ls := by
  apply List.ext_getElem?
  intro j
  by_cases hj : j < 5
  · rw [upTo_get hj, if_pos hj, ← lat_eq (by omega), List.getElem?_eq_getElem (by omega)]
  · rw [List.getElem?_eq_none (by rw [upTo_len]; omega), List.getElem?_eq_none (by omega)]

structure Three (w : World) (x y z : Nat) (p q : Value) : Prop where
  one : Blk w x #[p] 95
  two : Blk w y #[.slice none 0 0] 95
  three : Blk w z #[q] 95
theorem Three.keep {w w' : World} {x y z : Nat} {p q : Value} (h : Three w x y z p q) (hk : ∀ k, k < w.heap.size → (k = x ∨ k = y ∨ k = z) → w'.heap[k]? = w.heap[k]?) : Three w' x y z p q :=
  ⟨h.one.same (hk _ h.one.lt (.inl rfl)), h.two.same (hk _ h.two.lt (.inr (.inl rfl))), h.three.same (hk _ h.three.lt (.inr (.inr rfl)))⟩
theorem Three.below {w w' : World} {x y z : Nat} {p q : Value} (h : Three w x y z p q) (hb : Below w.heap.size w w') : Three w' x y z p q := h.keep fun k hk _ => hb.block k hk

/-- What lies in memory when a file's bounds are cloned. -/
def Cloned (w : World) (b1 b2 b3 xb z g : Nat) (f : Fil) (p q : Value) (us : List Value) (files : List (List Fil)) (w5 : World) : Prop :=
  ∃ a1 n1 a2 n2, Blk w5 xb (filCells f (.slice a1 f.least.length n1) (.slice a2 f.most.length n2)).toArray 42 ∧ Bytes (fun k => z ≤ k) w5 (.slice a1 f.least.length n1) f.least ∧ Bytes (fun k => z ≤ k) w5 (.slice a2 f.most.length n2) f.most ∧
    Fl (fun k => ¬ (k = b1 ∨ k = b2 ∨ k = b3) ∧ k ≠ xb) b1 w5 (.slice (some ⟨g, 0, none⟩) 5 5) us files ∧ Three w5 b1 b2 b3 p q ∧ Below b1 w w5
theorem cloned_of {w w0 x1 x2 : World} {b1 b2 b3 xb g n1 n2 : Nat} {a1 a2 : Option Addr} {f : Fil} {p q u1 u2 : Value} {us : List Value} {files : List (List Fil)}
    (HE3 : Blk x2 xb (filCells f u1 u2).toArray 42) (hz : xb < w0.heap.size) (hx : b1 < xb ∧ b2 < xb ∧ b3 < xb) (ho1 : Owned w0.heap.size x1 (.slice a1 f.least.length n1) f.least) (hb1 : Below w0.heap.size w0 x1) (ho2 : Owned x1.heap.size x2 (.slice a2 f.most.length n2) f.most) (hb2 : Below x1.heap.size x1 x2)
    (hF : Fl (fun k => ¬ (k = b1 ∨ k = b2 ∨ k = b3) ∧ k ≠ xb) b1 w0 (.slice (some ⟨g, 0, none⟩) 5 5) us files) (hT : Three w0 b1 b2 b3 p q) (hB : Below b1 w w0) :
    Cloned w b1 b2 b3 xb w0.heap.size g f p q us files ((x2.setCell ⟨xb, 2, none⟩ (.slice a1 f.least.length n1)).setCell ⟨xb, 3, none⟩ (.slice a2 f.most.length n2)) := by
  have hw : Wrote (fun k => k = xb) w0 ((x2.setCell ⟨xb, 2, none⟩ (.slice a1 f.least.length n1)).setCell ⟨xb, 3, none⟩ (.slice a2 f.most.length n2)) := Wrote.setCell (S := fun k => k = xb) (Wrote.setCell (S := fun k => k = xb) ((Wrote.of_below hb1).trans (Wrote.of_below hb2)) _ _ (.inl rfl)) _ _ (.inl rfl)
  refine ⟨a1, n1, a2, n2, (HE3.set 2 _).set 3 _, ?_, ?_, hF.wrote hw fun k hk e0 => hk.2 e0, hT.keep fun k hk hj => hw.block k hk fun e0 => by omega, hB.trans (hw.below (by omega) fun k hk => by rw [hk]; omega)⟩
  · refine ((Owned.bytesFrom ho1).below hb2).keep fun k _ hk => ?_
    rw [heap_setCell_other _ _ _ _ (by show k ≠ xb; omega), heap_setCell_other _ _ _ _ (by show k ≠ xb; omega)]
  · refine ((Owned.bytesFrom ho2).mono (F' := fun k => w0.heap.size ≤ k) fun k _ hk => Nat.le_trans hb1.size hk).keep fun k _ hk => ?_
    rw [heap_setCell_other _ _ _ _ (by show k ≠ xb; omega), heap_setCell_other _ _ _ _ (by show k ≠ xb; omega)]

set_option maxRecDepth 100000 in
set_option maxHeartbeats 8000000 in
theorem vclone_any (F : Nat → Prop) (lv : Value) (ls : List (List Fil)) (w : World) (h : Rw (rowK filK) F w lv ls) (h5 : ls.length = 5) (hfew : ∀ i, i < ls.length → (lat ls i).length ≤ 100000) (hkey : ∀ i, i < ls.length → ∀ f ∈ lat ls i, f.least.length ≤ 100000000 ∧ f.most.length ≤ 100000000) :
    Calls Try.prog 68 #[.agg #[lv]] w fun e w' => ∃ g us, e = .returned (.agg #[.slice (some ⟨g, 0, none⟩) 5 5]) ∧ Fl (fun _ => True) w.heap.size w' (.slice (some ⟨g, 0, none⟩) 5 5) us ls ∧ Below w.heap.size w w' := by
  have HMK := make_rows5
  obtain ⟨xa, ca, rfl⟩ := h.isSlice
  have HA : Hid (Rw (rowK filK) (· < w.heap.size) w (.slice xa ls.length ca) ls) := h.mono fun k hk _ => hk
  have HFEW := Lib.hid hfew
  have HKEY := Lib.hid hkey
  have H5 := Lib.hid h5
  rw [h5] at HA ⊢
  clear h hfew hkey h5
  go_enter Try.func68, Try.ntmps68
  go_upto_region 2 with fail
  clear HMK
  refine wp_gen fun w1 hw1 => ?_
  have HT1 : Hid (Three w1 w.heap.size (w.heap.size + 1) (w.heap.size + 1 + 1 + 1) (.slice xa 5 ca) (.slice (some ⟨w.heap.size + 1 + 1, 0, none⟩) 5 5)) := by
    rw [hw1]
    exact ⟨(((Blk.at_new rfl rfl).alloc _).alloc _).alloc _, ((blk_two _ _ _ _).alloc _).alloc _, Blk.at_new (by simp) rfl⟩
  have HF1 : Hid (Fl (fun k => ¬ (k = w.heap.size ∨ k = w.heap.size + 1 ∨ k = w.heap.size + 1 + 1 + 1)) w.heap.size w1 (.slice (some ⟨w.heap.size + 1 + 1, 0, none⟩) 5 5) nil5 (upTo ls 0 0)) := by
    rw [hw1, upTo_start]
    exact Fl.made ((Blk.at_new (by simp) rfl).alloc _) (by omega) (by omega)
  have HB1 : Hid (Below w.heap.size w w1) := by rw [hw1]; exact ((below_two w _ _).alloc (by simp; omega) _).alloc (by simp; omega) _
  have HD1 : Hid (w.heap.size < w.heap.size + 1 ∧ w.heap.size + 1 < w.heap.size + 1 + 1 ∧ w.heap.size + 1 + 1 < w.heap.size + 1 + 1 + 1) := ⟨by omega, by omega, by omega⟩
  clear hw1
  generalize hb3 : w.heap.size + 1 + 1 + 1 = b3 at *
  generalize hb4 : w.heap.size + 1 + 1 = g at *
  generalize hb2 : w.heap.size + 1 = b2 at *
  clear hb3 hb4 hb2
  obtain ⟨b1, hb1⟩ : ∃ b, w.heap.size = b := ⟨_, rfl⟩
  rw [hb1] at HT1 HF1 HD1 HB1
  have HBE := Lib.hid hb1
  have x0 : w1.cell? ⟨b1, 0, none⟩ = some (.slice xa 5 ca) := HT1.out.one.cell rfl
  rw [hb1]
  clear hb1
  go_wp2_with fail
  clear x0
  go_loopw [15] (fun iv wr => ∃ (i : Nat) (us : List Value), iv = .int .i64 (i : Int) ∧ i ≤ 5 ∧ Hid (Fl (fun k => ¬ (k = b1 ∨ k = b2 ∨ k = b3)) b1 wr (.slice (some ⟨g, 0, none⟩) 5 5) us (upTo ls i 0)) ∧ Hid (Three wr b1 b2 b3 (.slice xa 5 ca) (.slice (some ⟨g, 0, none⟩) 5 5)) ∧ Hid (Below b1 w wr)) (fun iv _ => 5 - (intOf iv).toNat)
  case atStart => exact ⟨0, nil5, rfl, by omega, HF1.out, HT1.out, HB1.out⟩
  case round =>
    obtain ⟨i, us, rfl, hi, HF, HT, HB⟩ := hrel
    clear HF1 HT1 HB1
    by_cases hlt : i < 5
    · have t1 : (i : Int) < 5 := by omega
      have t3 : 0 ≤ (i : Int) := by omega
      have hil : i < ls.length := by rw [H5.out]; exact hlt
      obtain ⟨bl, ol, capl, el, hbl, _, hcl⟩ := levs_at HA.out (by omega)
      obtain ⟨u, hu, c0⟩ := hcl i hil
      rw [H5.out] at el
      injection el with e1 e2 e3
      subst e1 e3
      clear e2 hcl
      have HKI := Lib.hid (HKEY.out i hil)
      have HFI := HFEW.out i hil
      have c0 := (HB.out.cell (p := ⟨bl, ol + i, none⟩) (by have := HBE.out; show bl < b1; omega)).trans c0
      have HUM : Hid (∀ k, k < (lat ls i).length → (upTo ls i k).set i ((lat ls i).take k ++ [fat (lat ls i) k]) = upTo ls i (k + 1)) := fun k hk => upTo_more hlt hk
      have HUN : Hid (upTo ls i (lat ls i).length = upTo ls (i + 1) 0) := upTo_next
      have HUA : Hid (∀ k, (upTo ls i k).getD i [] = (lat ls i).take k) := fun k => upTo_at hlt
      obtain ⟨l, hl⟩ : ∃ l, lat ls i = l := ⟨_, rfl⟩
      rw [hl] at hu HKI HUM HUN HUA HFI
      obtain ⟨ua, uc, rfl⟩ := hu.isSlice
      have HU : Hid (Rw filK (· < b1) w (.slice ua l.length uc) l) := by rw [← HBE.out]; exact hu
      obtain ⟨n, hn⟩ : ∃ n, l.length = n := ⟨_, rfl⟩
      have HLN := Lib.hid hn
      rw [hn] at c0 HU HUN HFI
      have x0 : wr.cell? ⟨b1, 0, none⟩ = some (.slice (some ⟨bl, ol, none⟩) 5 ca) := HT.out.one.cell rfl
      clear hl hu hn hil
      go_wp2_with fail
      clear c0 x0
      go_loopw [24] (fun kv wr => ∃ (k : Nat) (us : List Value), kv = .int .i64 (k : Int) ∧ k ≤ n ∧ Hid (Fl (fun k => ¬ (k = b1 ∨ k = b2 ∨ k = b3)) b1 wr (.slice (some ⟨g, 0, none⟩) 5 5) us (upTo ls i k)) ∧ Hid (Three wr b1 b2 b3 (.slice (some ⟨bl, ol, none⟩) 5 ca) (.slice (some ⟨g, 0, none⟩) 5 5)) ∧ Hid (Below b1 w wr)) (fun kv _ => n - (intOf kv).toNat)
      case atStart => exact ⟨0, us, rfl, by omega, HF.out, HT.out, HB.out⟩
      case round =>
        obtain ⟨k, us, rfl, hk, HFk, HTk, HBk⟩ := hrel
        clear HF HT HB
        by_cases hkn : k < n
        · have t5 : (k : Int) < (n : Int) := by omega
          have t6 : 0 ≤ (k : Int) := by omega
          have hkl : k < l.length := by rw [HLN.out]; exact hkn
          obtain ⟨bf, of, capf, ef, _, hbf, hcf⟩ := fils_at HU.out (by omega)
          obtain ⟨vl, vm, hvl, hvm, hwf, hc6⟩ := hcf k hkl
          injection ef with e1 e2 e3
          subst e1 e3
          clear e2 hcf
          have HKF := Lib.hid (HKI.out _ (fat_mem hkl))
          have HUK := Lib.hid (HUM.out k hkl)
          obtain ⟨f, hf⟩ : ∃ f, fat l k = f := ⟨_, rfl⟩
          rw [hf] at hvl hvm hwf hc6 HKF HUK
          obtain ⟨la, lc, rfl⟩ := hvl.isSlice
          obtain ⟨ma, mc, rfl⟩ := hvm.isSlice
          have HWF := Lib.hid hwf
          have hbf1 : bf < b1 := by have := HBE.out; omega
          have hc6 := hc6.keep HBk.out hbf1
          obtain ⟨c0, c1, c2, c3, c4, c5⟩ := hc6
          have HVL : Hid (Bytes (· < b1) wr (.slice la f.least.length lc) f.least) := hvl.keep fun j _ hj => HBk.out.block j hj
          have HVM : Hid (Bytes (· < b1) wr (.slice ma f.most.length mc) f.most) := hvm.keep fun j _ hj => HBk.out.block j hj
          clear hvl hvm hwf hf hkl
          go_upto_region 8 with fail
          clear c0 c1 c2 c3 c4 c5
          refine wp_gen fun w1 hw1 => ?_
          have HE1 : Hid (Blk w1 wr.heap.size (filCells f (.slice la f.least.length lc) (.slice ma f.most.length mc)).toArray 42) := by rw [hw1]; exact Blk.at_new rfl rfl
          have HW1 : Hid (Below wr.heap.size wr w1) := by rw [hw1]; exact (Below.refl _ _).alloc (Nat.le_refl _) _
          clear hw1
          have HXB : Hid (b1 < wr.heap.size ∧ b2 < wr.heap.size ∧ b3 < wr.heap.size) := ⟨HTk.out.one.lt, HTk.out.two.lt, HTk.out.three.lt⟩
          have HSZ : Hid (w.heap.size ≤ wr.heap.size) := HBk.out.size
          have HF1 : Hid (Fl (fun k => ¬ (k = b1 ∨ k = b2 ∨ k = b3) ∧ k ≠ wr.heap.size) b1 w1 (.slice (some ⟨g, 0, none⟩) 5 5) us (upTo ls i k)) := (HFk.out.mono fun k hk hD => ⟨hD, Nat.ne_of_lt hk⟩).below HW1.out
          have HT1 : Hid (Three w1 b1 b2 b3 (.slice (some ⟨bl, ol, none⟩) 5 ca) (.slice (some ⟨g, 0, none⟩) 5 5)) := HTk.out.below HW1.out
          have HB1 : Hid (Below b1 w w1) := HBk.out.trans (HW1.out.mono (Nat.le_of_lt HXB.out.1))
          have HK1 : Hid (Bytes (· < b1) w1.drew (.slice la f.least.length lc) f.least) := (HVL.out.below HW1.out).below (below_drew (Below.refl _ _))
          have HV1 : Hid (Bytes (· < b1) w1.drew (.slice ma f.most.length mc) f.most) := (HVM.out.below HW1.out).below (below_drew (Below.refl _ _))
          have HXW : Hid (wr.heap.size < w1.heap.size) := HE1.out.lt
          clear HFk HTk HBk HVL HVM HW1 HSZ
          generalize wr.heap.size = xb at *
          have HUS : Hid (us.length = 5) := by show _ = _; rw [HF1.out.len, upTo_len]
          have HCU : Hid ((upTo ls i k).getD i [] = l.take k) := HUA.out k
          have HCL : Hid ((l.take k).length = k) := by show _ = _; rw [List.length_take, HLN.out]; omega
          obtain ⟨cur, hcur⟩ : ∃ c, l.take k = c := ⟨_, rfl⟩
          have HCK : Hid (upTo ls i (k + 1) = (upTo ls i k).set i (cur ++ [f])) := by rw [← hcur]; exact HUK.out.symm
          rw [hcur] at HCU HCL
          clear hcur HUK
          go_cut [28] from 28 to 35 (fun _x wx => Hid (Cloned w b1 b2 b3 xb w1.heap.size g f (.slice (some ⟨bl, ol, none⟩) 5 ca) (.slice (some ⟨g, 0, none⟩) 5 5) us (upTo ls i k) wx))
          case first =>
            have k0 : w1.drew.cell? ⟨xb, 2, none⟩ = some (.slice la f.least.length lc) := HE1.out.cell rfl
            have k3 : w1.drew.cell? ⟨xb, 3, none⟩ = some (.slice ma f.most.length mc) := HE1.out.cell rfl
            have HE0 : Hid (Blk w1.drew xb (filCells f (.slice la f.least.length lc) (.slice ma f.most.length mc)).toArray 42) := HE1.out
            have HFd : Hid (Fl (fun k => ¬ (k = b1 ∨ k = b2 ∨ k = b3) ∧ k ≠ xb) b1 w1.drew (.slice (some ⟨g, 0, none⟩) 5 5) us (upTo ls i k)) := HF1.out.below (below_drew (Below.refl _ _))
            have HTd : Hid (Three w1.drew b1 b2 b3 (.slice (some ⟨bl, ol, none⟩) 5 ca) (.slice (some ⟨g, 0, none⟩) 5 5)) := HT1.out.below (below_drew (Below.refl _ _))
            have HBd : Hid (Below b1 w w1.drew) := below_drew HB1.out
            have HLL : Hid (f.least.length ≤ 140737488355328 ∧ f.most.length ≤ 140737488355328) := by have := HKF.out; exact ⟨by omega, by omega⟩
            go_region_law (first
              | (go_simp; go_at_call 61; refine Calls.mono (clone_any _ (.slice la f.least.length lc) f.least _ HK1.out HLL.out.1) ?_; rintro _ x1 ⟨v1, rfl, ho1, hb1⟩; obtain ⟨a1, n1, rfl⟩ := (Owned.bytesFrom ho1).isSlice; have HE2 := Lib.hid (HE0.out.below hb1 HE0.out.lt); have k3x : x1.cell? ⟨xb, 3, none⟩ = some (.slice ma f.most.length mc) := HE2.out.cell rfl)
              | (go_simp; go_at_call 61; refine Calls.mono (clone_any _ (.slice ma f.most.length mc) f.most _ (HV1.out.below hb1) HLL.out.2) ?_; rintro _ x2 ⟨v2, rfl, ho2, hb2⟩; obtain ⟨a2, n2, rfl⟩ := (Owned.bytesFrom ho2).isSlice; have HE3 := Lib.hid (HE2.out.below hb2 HE2.out.lt); have k0y : x2.cell? ⟨xb, 2, none⟩ = some (.slice la f.least.length lc) := HE3.out.cell rfl; have k3y : x2.cell? ⟨xb, 3, none⟩ = some (.slice ma f.most.length mc) := HE3.out.cell rfl; have f0y := HE3.out.free 2; have f3y := HE3.out.free 3))
            all_goals
              go_wp2_with fail
              go_meet
              exact cloned_of (w0 := w1.drew) HE3.out HE0.out.lt HXB.out ho1 hb1 ho2 hb2 HFd.out HTd.out HBd.out
          case rest =>
            have HCD := hcut
            clear hcut
            obtain ⟨a1, n1, a2, n2, he5, hk5, hv5, hf5, ht5, hb5⟩ := HCD.out
            have HE5 := Lib.hid he5
            have HK5 := Lib.hid hk5
            have HV5 := Lib.hid hv5
            have HF5 := Lib.hid hf5
            have HT5 := Lib.hid ht5
            have HW5 := Lib.hid hb5
            have HFR : Hid (∀ k, w1.heap.size ≤ k → (b1 ≤ k ∧ (¬ (k = b1 ∨ k = b2 ∨ k = b3) ∧ k ≠ xb) ∧ Free (.slice (some ⟨g, 0, none⟩) 5 5) us k)) := fun k hk => ⟨(by have := HXB.out; have := HXW.out; omega), ⟨(by have := HXB.out; have := HXW.out; omega), (by have := HXW.out; omega)⟩, fun e0 => by have := (HF1.out.arr.lt k e0).2; omega, fun i hi e0 => by have := ((HF1.out.row i hi).lt k e0).2; omega⟩
            have HSZ5 : Hid (b1 ≤ wc.heap.size) := Nat.le_of_lt HT5.out.one.lt
            clear HCD he5 hk5 hv5 hf5 ht5 hb5 HE1 HF1 HT1 HB1 HK1 HV1
            go_upto_region 9 with fail
            obtain ⟨go, gcap, ev, _, hgo, hcell, hfree⟩ := vals_at HF5.out.arr (by rw [HUS.out]; omega)
            rw [HUS.out] at ev
            injection ev with ev1 ev2 ev3
            injection ev1 with ev1
            injection ev1 with ev1
            subst ev1 ev3
            clear ev2
            have hum := hcell i (by rw [HUS.out]; exact hlt)
            have hufr := hfree i
            have hrow := HF5.out.row i (by rw [HUS.out]; exact hlt)
            rw [HCU.out] at hrow
            obtain ⟨ra, rc, hu⟩ := hrow.isSlice
            rw [hu] at hum hrow
            have HUQ := Lib.hid hu
            have HRW := Lib.hid hrow
            have HCM : Hid (cur.length < 1000000) := by show _ < _; rw [HCL.out]; omega
            have HGO : Hid (g < wc.heap.size) := hgo
            have HUM5 : Hid (wc.cell? ⟨g, i, none⟩ = some (.slice ra cur.length rc)) := hum
            have HUF : Hid (wc.frozen? ⟨g, i, none⟩ = false) := hufr
            have x0 : wc.cell? ⟨xb, 0, none⟩ = some (.int .u64 f.num) := HE5.out.cell rfl
            have x1 : wc.cell? ⟨xb, 1, none⟩ = some (.int .i64 f.size) := HE5.out.cell rfl
            have x2 : wc.cell? ⟨xb, 2, none⟩ = some (.slice a1 f.least.length n1) := HE5.out.cell rfl
            have x3 : wc.cell? ⟨xb, 3, none⟩ = some (.slice a2 f.most.length n2) := HE5.out.cell rfl
            have x4 : wc.cell? ⟨xb, 4, none⟩ = some (.int .i64 f.ents) := HE5.out.cell rfl
            have x5 : wc.cell? ⟨xb, 5, none⟩ = some (.int .u64 f.mseq) := HE5.out.cell rfl
            have y0 : ∀ o, (wc.alloc o).cell? ⟨g, i, none⟩ = some (.slice ra cur.length rc) := fun o => Lib.cell?_alloc_some o HUM5.out
            have z0 : wc.cell? ⟨g, i, none⟩ = some (.slice ra cur.length rc) := HUM5.out
            have q0 : wc.cell? ⟨b3, 0, none⟩ = some (.slice (some ⟨g, 0, none⟩) 5 5) := HT5.out.three.cell rfl
            have q1 : ∀ o, (wc.alloc o).cell? ⟨b3, 0, none⟩ = some (.slice (some ⟨g, 0, none⟩) 5 5) := fun o => Lib.cell?_alloc_some o (HT5.out.three.cell rfl)
            clear hcell hfree hu hrow hgo hum hufr
            go_region_law (refine step_append_elF (K := filK) 33 42 _ 80 Try.underlying33 info_filO rfl _ b1 (.slice ra cur.length rc) cur wc.heap.size 42 (filCells f (.slice a1 f.least.length n1) (.slice a2 f.most.length n2)).toArray f rfl (.tmp 43) (.tmp 45) rfl (by rfl) (by rfl) (HRW.out.below (below_drew (below_al (Below.refl _ _) _))) (Blk.drewP (Blk.at_new rfl rfl)) ⟨_, _, rfl, (HK5.out.below (below_drew (below_al (Below.refl _ _) _))).mono fun k _ hk => ⟨HFR.out k hk, fun e0 => (HFR.out k hk).2.2.2 i (by rw [HUS.out]; exact hlt) (by rw [HUQ.out]; exact e0)⟩, (HV5.out.below (below_drew (below_al (Below.refl _ _) _))).mono fun k _ hk => ⟨HFR.out k hk, fun e0 => (HFR.out k hk).2.2.2 i (by rw [HUS.out]; exact hlt) (by rw [HUQ.out]; exact e0)⟩, HWF.out⟩ HCM.out (by decide) (Nat.le_trans HSZ5.out (below_drew (below_al (Below.refl _ _) _)).size) ?_; intro v9 w9 hro hg; obtain ⟨a9, c9, e9⟩ := hro.isSlice; rw [List.length_append, List.length_singleton] at e9; subst e9; have hgo9 : w9.heap[g]? = wc.heap[g]? := (hg.grown.block g (Nat.lt_of_lt_of_le HGO.out (below_drew (below_al (Below.refl _ _) _)).size) (fun e0 => HF5.out.ne i g (by rw [HUS.out]; exact hlt) (by rw [HUQ.out]; exact e0.symm) rfl)).trans ((below_drew (below_al (Below.refl wc.heap.size wc) _)).block g HGO.out); have k9 : w9.cell? ⟨g, i, none⟩ = some (.slice ra cur.length rc) := (World.cell?_of_block (w := wc) hgo9).trans HUM5.out; have f9 : w9.frozen? ⟨g, i, none⟩ = false := (frozen_of_block (w := wc) hgo9).trans HUF.out; have ht9 : w9.heap[b3]? = wc.heap[b3]? := (hg.grown.block b3 (Nat.lt_of_lt_of_le HT5.out.three.lt (below_drew (below_al (Below.refl _ _) _)).size) (fun e0 => (HF5.out.dr i b3 (by rw [HUS.out]; exact hlt) (by rw [HUQ.out]; exact e0.symm)).1 (.inr (.inr rfl)))).trans ((below_drew (below_al (Below.refl wc.heap.size wc) _)).block b3 HT5.out.three.lt); have q9 : w9.cell? ⟨b3, 0, none⟩ = some (.slice (some ⟨g, 0, none⟩) 5 5) := (World.cell?_of_block (w := wc) ht9).trans (HT5.out.three.cell rfl); have HRO9 := Lib.hid hro; have HG9 := Lib.hid hg; clear hro hg hgo9 ht9)
            all_goals
              go_upto_region 10 with fail
              refine wp_gen fun w10 hw10 => ?_
              have hW : Below wc.heap.size wc (wc.alloc (.cells (filCells f (.slice a1 f.least.length n1) (.slice a2 f.most.length n2)).toArray 42)).drew := below_drew (below_al (Below.refl _ _) _)
              have HF10 : Hid (Fl (fun k => ¬ (k = b1 ∨ k = b2 ∨ k = b3) ∧ k ≠ xb) b1 w10 (.slice (some ⟨g, 0, none⟩) 5 5) (us.set i (.slice a9 (cur.length + 1) c9)) (upTo ls i (k + 1))) := by
                rw [hw10, HCK.out]
                have h0 := HF5.out.below hW
                have h1 := Fl.last (g := g) (cap := 5) (m := i) (u' := .slice a9 (cur.length + 1) c9) (cur := cur ++ [f]) (by rw [HUS.out]; exact h0) (by rw [HUS.out]; exact hlt) (by rw [HUS.out]; exact HRO9.out) (by rw [HUQ.out]; exact HG9.out) rfl (fun k hk => by have := HXB.out; have := HXW.out; have := HE5.out.lt; have := hW.size; exact ⟨(by have := HT5.out.one.lt; have := HT5.out.two.lt; have := HT5.out.three.lt; omega), by omega⟩)
                rw [HUS.out] at h1
                exact h1
              have hHG : ∀ j, j < wc.heap.size → (.slice ra cur.length rc : Value).ownBlock ≠ some j → w9.heap[j]? = wc.heap[j]? := fun j hj hn => (HG9.out.grown.block j (Nat.lt_of_lt_of_le hj hW.size) fun e0 => hn e0.symm).trans (hW.block j hj)
              have HT10 : Hid (Three w10 b1 b2 b3 (.slice (some ⟨bl, ol, none⟩) 5 ca) (.slice (some ⟨g, 0, none⟩) 5 5)) := by
                rw [hw10]
                refine HT5.out.keep fun j hj hx => ?_
                rw [heap_setCell_other _ _ _ _ (fun e0 => (HF5.out.da g rfl).1 (by rw [← show j = g from e0]; exact hx))]
                exact hHG j hj fun e0 => (HF5.out.dr i j (by rw [HUS.out]; exact hlt) (by rw [HUQ.out]; exact e0)).1 hx
              have HB10 : Hid (Below b1 w w10) := by
                rw [hw10]
                exact ((HW5.out.trans (hW.mono HSZ5.out)).trans (HG9.out.below (Nat.le_trans HSZ5.out hW.size) fun k e0 => (HRW.out.lt k e0).1)).setCell (HF5.out.arr.lt g rfl).1 _
              clear hw10 HRO9 HG9 HE5 HF5 HRW HUM5 HUF HK5 HV5 HFR k9 f9 z0 y0 x0 x1 x2 x3 x4 x5 q0 q1 q9 HW5 HT5 hW hHG
              go_wp2_with fail
              go_roundw
              · exact ⟨k + 1, _, by go_num, by omega, HF10.out.mono fun _ _ hD => hD.1, HT10.out, HB10.out⟩
              · simp only [intOf]; omega
        · have t5 : ¬ (k : Int) < (n : Int) := by omega
          have hkn' : k = n := by omega
          subst hkn'
          have HFN : Hid (Fl (fun k => ¬ (k = b1 ∨ k = b2 ∨ k = b3)) b1 wr (.slice (some ⟨g, 0, none⟩) 5 5) us (upTo ls (i + 1) 0)) := by rw [← HUN.out]; exact HFk.out
          clear HFk
          go_wp2_with fail
          go_roundw
          · exact ⟨i + 1, us, by go_num, by omega, HFN.out, HTk.out, HBk.out⟩
          · simp only [intOf]; omega
    · have t1 : ¬ (i : Int) < 5 := by omega
      have hi5 : i = 5 := by omega
      subst hi5
      have HFE : Hid (Fl (fun k => ¬ (k = b1 ∨ k = b2 ∨ k = b3)) b1 wr (.slice (some ⟨g, 0, none⟩) 5 5) us ls) := by rw [upTo_end H5.out] at HF; exact HF.out
      have q0 : wr.cell? ⟨b3, 0, none⟩ = some (.slice (some ⟨g, 0, none⟩) 5 5) := HT.out.three.cell rfl
      have q1 : wr.cell? ⟨b2, 0, none⟩ = some (.slice none 0 0) := HT.out.two.cell rfl
      have q2 := HT.out.two.free 0
      clear HF t1 hlt hi
      have HDD := HD1.out
      have HP1 : Hid (Fl (fun _ => True) w.heap.size (wr.setCell ⟨b2, 0, none⟩ (.slice (some ⟨g, 0, none⟩) 5 5)) (.slice (some ⟨g, 0, none⟩) 5 5) us ls) := by
        rw [HBE.out]
        exact (HFE.out.wrote (Wrote.setCell (S := fun k => k = b2) (Wrote.of_below (Below.refl _ _)) _ _ (.inl rfl)) (fun k hk e0 => hk (.inr (.inl e0)))).mono fun _ _ _ => trivial
      have HP2 : Hid (Below w.heap.size w (wr.setCell ⟨b2, 0, none⟩ (.slice (some ⟨g, 0, none⟩) 5 5))) := by
        rw [HBE.out]
        exact HB.out.setCell (Nat.le_of_lt HDD.1) _
      have HR : Hid (Blk (wr.setCell ⟨b2, 0, none⟩ (.slice (some ⟨g, 0, none⟩) 5 5)) b2 #[.slice (some ⟨g, 0, none⟩) 5 5] 95) := HT.out.two.set 0 _
      clear HFE HB HDD
      go_wp2_with fail
      refine bodyPost_ret (results_cell1 (p := 2) rfl _ _ b2 95 #[.slice (some ⟨g, 0, none⟩) 5 5] _ rfl HR.out Try.underlying95 rfl (by kernel_rfl)) rfl ?_
      exact ⟨_, us, rfl, HP1.out, HP2.out⟩
end Go.Proofs.Ytkcohhldmhdcfaa

namespace Go.Proofs.Ytkcohhldmhdcfaa
open Go.RowKit

open Classical in
/-- The files of a level that a span meets. -/
noncomputable def overB (v : Ver) (lv : Int) (least most : List UInt8) : List Fil := if chkW v = 0 ∧ 0 ≤ lv ∧ lv < v.levels.length then (lat v.levels lv.toNat).filter (lapB least most) else []
theorem filter_take_yes {p : Fil → Bool} {l : List Fil} {k : Nat} (hk : k < l.length) (h : p (fat l k) = true) : (l.take (k + 1)).filter p = (l.take k).filter p ++ [fat l k] := by
  rw [List.take_succ_eq_append_getElem hk, List.filter_append, fat_eq hk]
  simp [h]
theorem filter_take_no {p : Fil → Bool} {l : List Fil} {k : Nat} (hk : k < l.length) (h : p (fat l k) = false) : (l.take (k + 1)).filter p = (l.take k).filter p := by
  rw [List.take_succ_eq_append_getElem hk, List.filter_append, fat_eq hk]
  simp [h]
/-- What a good version's levels bring for clone. -/
theorem good_small {v : Ver} (h : chkW v = 0) : v.levels.length = 5 ∧ (∀ i, i < v.levels.length → (lat v.levels i).length ≤ 10000) ∧ ∀ i, i < v.levels.length → ∀ f ∈ lat v.levels i, f.least.length ≤ 4096 ∧ f.most.length ≤ 4096 := by
  obtain ⟨hh, hg, hc⟩ := chkW_good h
  refine ⟨hh.five, fun i hi => Nat.le_trans (lev_le_cnt hi) hc, fun i hi f hf => ?_⟩
  have h1 := hg.fine i hi f hf
  exact ⟨(keyOk_len h1.least).2, (keyOk_len h1.most).2⟩
end Go.Proofs.Ytkcohhldmhdcfaa

namespace Go.Proofs.Ytkcohhldmhdcfaa
open Go.RowKit

theorem run_levels0 (a : Option Addr) (n c : Nat) (w : World) : (Instr.field 95 (.agg #[.slice a n c]) 0).run Try.prog w = .ok (.slice a n c) w := by kernel_rfl
set_option maxRecDepth 100000 in
set_option maxHeartbeats 4000000 in
theorem overlap_any (F L M : Nat → Prop) (v : Ver) (lv : Value) (lev : Int) (least most : List UInt8) (ql qm : Value) (w : World) (h : Rw (rowK filK) F w lv v.levels) (hw : v.wf) (hfew : cntTo v.levels v.levels.length ≤ 1000000) (hlev : i64In lev) (hql : Bytes L w ql least) (hqm : Bytes M w qm most) :
    Calls Try.prog 44 #[.agg (verCells v lv).toArray, .int .i64 lev, ql, qm] w fun e w' => ∃ r, e = .returned r ∧ Rw filK (fun k => w.heap.size ≤ k) w' r (overB v lev least most) ∧ Below w.heap.size w w' := by
  obtain ⟨xa, ca, rfl⟩ := h.isSlice
  obtain ⟨la, lc, rfl⟩ := hql.isSlice
  obtain ⟨ma, mc, rfl⟩ := hqm.isSlice
  have HA : Hid (Rw (rowK filK) (· < w.heap.size) w (.slice xa v.levels.length ca) v.levels) := h.mono fun k hk _ => hk
  have HCK := Lib.hid (fun w' (hb : Below w.heap.size w w') => check_any F v _ w' (h.below hb) hw hfew)
  have HQL := Lib.hid hql
  have HQM := Lib.hid hqm
  clear h hql hqm
  obtain ⟨m, hm1⟩ : ∃ m, v.levels.length = m := ⟨_, rfl⟩
  have HM := Lib.hid hm1
  rw [hm1] at HA HCK
  unfold verCells at *
  rw [hm1]
  clear hm1
  go_enter Try.func44, Try.ntmps44
  go_upto_region 1 with fail
  refine wp_gen fun w1 hw1 => ?_
  have HX1 : Hid (Blk w1 w.heap.size (verCells v (.slice xa m ca)).toArray 25) := by rw [hw1]; exact Blk.at_new rfl rfl
  have HW1 : Hid (Below w.heap.size w w1) := by rw [hw1]; exact (Below.refl _ _).alloc (Nat.le_refl _) _
  clear hw1
  have x0 : w1.cell? ⟨w.heap.size, 0, none⟩ = some (.slice xa m ca) := HX1.out.cell rfl
  have x1 : w1.cell? ⟨w.heap.size, 1, none⟩ = some (.int .u64 v.next) := HX1.out.cell rfl
  have x2 : w1.cell? ⟨w.heap.size, 2, none⟩ = some (.int .u64 v.seq) := HX1.out.cell rfl
  have x3 : w1.cell? ⟨w.heap.size, 3, none⟩ = some (.int .u64 v.log) := HX1.out.cell rfl
  go_wp2_with fail
  clear x0 x1 x2 x3
  refine Calls.mono (HCK.out _ HW1.out) ?_
  rintro _ w2 ⟨rfl, hb⟩
  have HX2 : Hid (Blk w2 w.heap.size (verCells v (.slice xa m ca)).toArray 25) := HX1.out.below hb HX1.out.lt
  have HW2 : Hid (Below w.heap.size w w2) := HW1.out.trans (hb.mono HW1.out.size)
  clear hb HX1 HW1
  obtain ⟨ck, hck⟩ : ∃ c, chkW v = c := ⟨_, rfl⟩
  have HK := Lib.hid hck
  rw [hck]
  clear hck
  have hnil : ∀ (hn : ¬ (chkW v = 0 ∧ 0 ≤ lev ∧ lev < v.levels.length)), Rw filK (fun k => w.heap.size ≤ k) w2 (.slice none 0 0) (overB v lev least most) := fun hn => by
    unfold overB
    rw [if_neg hn]
    exact (ROwnF.nil filK (fun _ => False) w.heap.size 0 w2).rows.mono fun _ _ hk => hk.elim (fun e => by cases e) fun e => e.1.elim
  by_cases hc0 : ck = 0
  case neg =>
    have g0 : (ck == 0) = false := by simpa using hc0
    have g1 : (ck != 0) = true := by simpa using hc0
    have HF := Lib.hid (hnil fun e => hc0 (by rw [← HK.out]; exact e.1))
    clear hc0 hnil
    go_wp2_with fail
    go_ret
    exact ⟨_, rfl, HF.out, HW2.out⟩
  subst hc0
  have x0 : w2.cell? ⟨w.heap.size, 0, none⟩ = some (.slice xa m ca) := HX2.out.cell rfl
  by_cases hl0 : 0 ≤ lev
  case neg =>
    have g0 : lev < 0 := by omega
    have HF := Lib.hid (hnil fun e => hl0 e.2.1)
    clear hl0 hnil
    go_wp2_with fail
    go_ret
    exact ⟨_, rfl, HF.out, HW2.out⟩
  by_cases hl1 : lev < m
  case neg =>
    have g0 : (m : Int) ≤ lev := by omega
    have HF := Lib.hid (hnil fun e => hl1 (by rw [← HM.out]; exact e.2.2))
    clear hl1 hnil
    go_wp2_with fail
    go_ret
    exact ⟨_, rfl, HF.out, HW2.out⟩
  clear hnil
  obtain ⟨i, rfl⟩ : ∃ i : Nat, lev = (i : Int) := ⟨lev.toNat, by omega⟩
  have hi : i < m := by omega
  have hil : i < v.levels.length := by rw [HM.out]; exact hi
  have HGS := Lib.hid (good_small HK.out)
  have HRES : Hid (overB v (i : Int) least most = (lat v.levels i).filter (lapB least most)) := by
    show _ = _
    unfold overB
    rw [if_pos ⟨HK.out, by omega, by omega⟩]
    rfl
  have t1 : (i : Int) < (m : Int) := by omega
  have t2 : ¬ (m : Int) ≤ (i : Int) := by omega
  have t3 : ¬ (i : Int) < 0 := by omega
  have HVC := Lib.hid (vclone_any (· < w.heap.size) (.slice xa m ca) v.levels w2 (HA.out.keep fun k _ hk => HW2.out.block k hk) HGS.out.1 (fun i hi => Nat.le_trans (HGS.out.2.1 i hi) (by decide)) (fun i hi f hf => ⟨Nat.le_trans (HGS.out.2.2 i hi f hf).1 (by decide), Nat.le_trans (HGS.out.2.2 i hi f hf).2 (by decide)⟩))
  clear hl0 hl1 HCK
  go_wp2_with fail
  refine Calls.mono HVC.out ?_
  rintro _ w3 ⟨g, us, rfl, hf3, hb3⟩
  have HUS : Hid (us.length = 5) := by show _ = _; rw [hf3.len]; exact HGS.out.1
  have hm5 : m = 5 := by rw [← HM.out]; exact HGS.out.1
  obtain ⟨g', gcap, ev, _, hg, hcell, _⟩ := vals_at hf3.arr (by rw [HUS.out]; omega)
  rw [HUS.out] at ev
  injection ev with ev1 ev2 ev3
  injection ev1 with ev1
  injection ev1 with ev1
  subst ev1 ev3
  have hrow := hf3.row i (by rw [HUS.out]; omega)
  have hum := hcell i (by rw [HUS.out]; omega)
  rw [show v.levels.getD i [] = lat v.levels i from rfl] at hrow
  obtain ⟨l, hl⟩ : ∃ l, lat v.levels i = l := ⟨_, rfl⟩
  rw [hl] at hrow HRES
  have hll : l.length ≤ 10000 := by rw [← hl]; exact HGS.out.2.1 i hil
  obtain ⟨ra, rc, hu⟩ := hrow.isSlice
  rw [hu] at hrow hum
  have HROW : Hid (Rw filK (fun k => w.heap.size ≤ k ∧ k < w3.heap.size) w3 (.slice ra l.length rc) l) := hrow.rows.mono fun k hk hx => ⟨Nat.le_trans HW2.out.size (hx.elim (fun e => (hrow.lt k e).1) fun e => e.1.1), hk⟩
  have HW3 : Hid (Below w.heap.size w w3) := HW2.out.trans (hb3.mono HW2.out.size)
  have HL3 : Hid (Bytes L w3 (.slice la least.length lc) least) := HQL.out.below HW3.out
  have HM3 : Hid (Bytes M w3 (.slice ma most.length mc) most) := HQM.out.below HW3.out
  obtain ⟨n, hn⟩ : ∃ n, l.length = n := ⟨_, rfl⟩
  have HLN := Lib.hid hn
  rw [hn] at HROW hum hll
  subst hm5
  clear hf3 hb3 ev2 hg hcell hrow hu hn hl hil HVC HX2 HA HQL HQM HW2 HGS
  have t4 : (i : Int) < 5 := t1
  have t5 : 0 ≤ (i : Int) := by omega
  have hfld := run_levels0
  have c0 : w3.cell? ⟨g, 0 + i, none⟩ = some (.slice ra n rc) := by rw [Nat.zero_add]; exact hum
  go_wp2_with fail
  clear c0 x0 hum
  go_loopw [9, 35] (fun ov kv wr => ∃ (k : Nat) (u : Value), u = ov ∧ kv = .int .i64 (k : Int) ∧ k ≤ n ∧ Hid (ROwnF filK (fun k => w.heap.size ≤ k ∧ k < w3.heap.size) w3.heap.size 42 wr ov ((l.take k).filter (lapB least most))) ∧ Hid (Below w3.heap.size w3 wr)) (fun _ kv _ => n - (intOf kv).toNat)
  case atStart => exact ⟨0, _, rfl, rfl, by omega, ROwnF.nil _ _ _ _ _, Below.refl _ _⟩
  case round =>
    obtain ⟨k, u, rfl, rfl, hk, HO, HB⟩ := hrel
    by_cases hkn : k < n
    · have t6 : (k : Int) < (n : Int) := by omega
      have t7 : 0 ≤ (k : Int) := by omega
      have hkl : k < l.length := by rw [HLN.out]; exact hkn
      obtain ⟨bf, of, capf, ef, _, hbf, hcf⟩ := fils_at HROW.out (by omega)
      obtain ⟨vl, vm, hvl, hvm, hwf, hc6⟩ := hcf k hkl
      injection ef with e1 e2 e3
      subst e1 e3
      clear e2 hcf
      have HYES := Lib.hid (fun h => filter_take_yes (p := lapB least most) hkl h)
      have HNO := Lib.hid (fun h => filter_take_no (p := lapB least most) hkl h)
      obtain ⟨f, hf⟩ : ∃ f, fat l k = f := ⟨_, rfl⟩
      rw [hf] at hvl hvm hwf hc6 HYES HNO
      obtain ⟨fa, fc, rfl⟩ := hvl.isSlice
      obtain ⟨ga2, gc2, rfl⟩ := hvm.isSlice
      have HWF := Lib.hid hwf
      obtain ⟨c0, c1, c2, c3, c4, c5⟩ := hc6.keep HB.out hbf
      have HVL := Lib.hid (hvl.below HB.out)
      have HVM := Lib.hid (hvm.below HB.out)
      have HLb := Lib.hid (HL3.out.below HB.out)
      have HMb := Lib.hid (HM3.out.below HB.out)
      obtain ⟨oa, oc, rfl⟩ := HO.out.isSlice
      obtain ⟨out, hout⟩ : ∃ o, (l.take k).filter (lapB least most) = o := ⟨_, rfl⟩
      have HOL : Hid (out.length < 1000000) := by
        show _ < _
        rw [← hout]
        have h1 := List.length_filter_le (lapB least most) (l.take k)
        rw [List.length_take] at h1
        omega
      rw [hout] at HO HYES HNO ⊢
      clear hvl hvm hwf hf hc6 hkl hout
      go_upto_region 7 with fail
      clear c0 c1 c2 c3 c4 c5
      refine wp_gen fun w4 hw4 => ?_
      have HE4 : Hid (Blk w4 wr.heap.size (filCells f (.slice fa f.least.length fc) (.slice ga2 f.most.length gc2)).toArray 42) := by rw [hw4]; exact Blk.at_new rfl rfl
      have HW4 : Hid (Below wr.heap.size wr w4) := by rw [hw4]; exact (Below.refl _ _).alloc (Nat.le_refl _) _
      clear hw4
      obtain ⟨c0, c1, c2, c3, c4, c5⟩ := C6.blk HE4.out
      go_wp2_with fail
      clear c0 c1 c2 c3 c4 c5
      obtain ⟨r, hr⟩ : ∃ r, lapB least most f = r := ⟨_, rfl⟩
      have HR := Lib.hid hr
      refine Calls.mono (laps_at _ _ _ _ f _ _ least most _ _ w4 (HVL.out.below HW4.out) (HVM.out.below HW4.out) (HLb.out.below HW4.out) (HMb.out.below HW4.out) hr) ?_
      rintro _ w5 ⟨rfl, hb5⟩
      have HB5 : Hid (Below wr.heap.size wr w5) := HW4.out.trans (hb5.mono HW4.out.size)
      have HE5 : Hid (Blk w5 wr.heap.size (filCells f (.slice fa f.least.length fc) (.slice ga2 f.most.length gc2)).toArray 42) := HE4.out.below hb5 HE4.out.lt
      have HO5 := Lib.hid (HO.out.below HB5.out)
      have HVL5 := Lib.hid (HVL.out.below HB5.out)
      have HVM5 := Lib.hid (HVM.out.below HB5.out)
      have HW5 : Hid (Below w3.heap.size w3 w5) := HB.out.trans (HB5.out.mono HB.out.size)
      clear hb5 hr HE4 HW4 HO HVL HVM HB HLb HMb HB5
      cases r with
      | false =>
        have HN := Lib.hid (HNO.out HR.out)
        go_wp2_with fail
        go_roundw
        · exact ⟨k + 1, _, rfl, by go_num, by omega, by rw [HN.out]; exact HO5.out, HW5.out⟩
        · simp only [intOf]; omega
      | true =>
        have HY := Lib.hid (HYES.out HR.out)
        obtain ⟨c0, c1, c2, c3, c4, c5⟩ := C6.blk HE5.out
        go_wp2_with (with_reducible refine pause_append ?_)
        clear c0 c1 c2 c3 c4 c5
        refine list_gen fun w6 hw6 => ?_
        have HB6 : Hid (Below w5.heap.size w5 w6) := by rw [hw6]; exact (Below.refl _ _).alloc (Nat.le_refl _) _
        have HS6 : Hid (Blk w6 w5.heap.size (filCells f (.slice fa f.least.length fc) (.slice ga2 f.most.length gc2)).toArray 42) := by rw [hw6]; exact Blk.at_new rfl rfl
        clear hw6
        have HO6 := Lib.hid (HO5.out.below HB6.out)
        have HSZ6 : Hid (w3.heap.size ≤ w6.heap.size) := Nat.le_trans HW5.out.size HB6.out.size
        refine Pause.go (wpList_append_elF (K := filK) 33 42 _ 80 Try.underlying33 info_filO rfl _ w3.heap.size _ out w5.heap.size 42 _ f rfl _ _ rfl rfl rfl HO6.out HS6.out ⟨_, _, rfl, (HVL5.out.below HB6.out).mono fun j hj hx => ⟨hx, fun e0 => by have := (HO6.out.lt j e0).1; omega⟩, (HVM5.out.below HB6.out).mono fun j hj hx => ⟨hx, fun e0 => by have := (HO6.out.lt j e0).1; omega⟩, HWF.out⟩ HOL.out (by decide) HSZ6.out ?_)
        intro v7 w7 hro hg
        have HO7 := Lib.hid hro
        have HB7 : Hid (Below w3.heap.size w3 w7) := (HW5.out.trans (HB6.out.mono HW5.out.size)).trans (hg.below HSZ6.out fun j e0 => (HO6.out.lt j e0).1)
        clear hro hg HO6 HS6 HO5
        go_wp2_with fail
        go_roundw
        · exact ⟨k + 1, _, rfl, by go_num, by omega, by rw [HY.out]; exact HO7.out, HB7.out⟩
        · simp only [intOf]; omega
    · have t6 : ¬ (k : Int) < (n : Int) := by omega
      have hkn' : k = n := by omega
      subst hkn'
      have HP : Hid (Rw filK (fun k => w.heap.size ≤ k) wr u (overB v (i : Int) least most)) := by
        have h1 := HO.out
        rw [show l.take k = l by rw [← HLN.out, List.take_length], ← HRES.out] at h1
        exact h1.rows.mono fun j _ hj => hj.elim (fun e => Nat.le_trans HW3.out.size (h1.lt j e).1) fun hj => hj.1.1
      have HWE : Hid (Below w.heap.size w wr) := HW3.out.trans (HB.out.mono HW3.out.size)
      clear HO
      go_wp2_with fail
      go_ret
      exact ⟨_, rfl, HP.out, HWE.out⟩
end Go.Proofs.Ytkcohhldmhdcfaa
