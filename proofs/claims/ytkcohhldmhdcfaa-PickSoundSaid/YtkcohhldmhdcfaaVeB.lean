/- Chapter 12: fine. -/
import Derived.Test.YtkcohhldmhdcfaaVeA
namespace Go.Proofs.Ytkcohhldmhdcfaa
open Go.RowKit

set_option maxRecDepth 100000 in
set_option maxHeartbeats 4000000 in
theorem fine_any (F G : Nat → Prop) (f : Fil) (vl vm : Value) (w : World) (hl : Bytes F w vl f.least) (hm : Bytes G w vm f.most) :
    Calls Try.prog 72 #[.agg (filCells f vl vm).toArray] w fun e w' => e = .returned (.bool (fineB f)) ∧ Below w.heap.size w w' := by
  obtain ⟨la, lc, rfl⟩ := hl.isSlice
  obtain ⟨ma, mc, rfl⟩ := hm.isSlice
  have HL := Lib.hid hl
  have HM := Lib.hid hm
  clear hl hm
  unfold filCells
  by_cases h0 : (1 : Int) ≤ f.num
  case neg =>
    have HF : Hid (fineB f = false) := fineB_no (fun h => h0 h.num)
    have g0 : decide ((1 : Int) ≤ f.num) = false := decide_eq_false h0
    go_enter Try.func72, Try.ntmps72
    go_wp2_with fail
    go_ret
    exact ⟨ret_bool HF.out.symm, ((Below.refl _ _).alloc (Nat.le_refl _) _)⟩
  by_cases h1 : 0 ≤ f.size
  case neg =>
    have HF : Hid (fineB f = false) := fineB_no (fun h => h1 h.s0)
    have g1 : decide (0 ≤ f.size) = false := decide_eq_false h1
    go_enter Try.func72, Try.ntmps72
    go_wp2_with fail
    go_ret
    exact ⟨ret_bool HF.out.symm, ((Below.refl _ _).alloc (Nat.le_refl _) _)⟩
  by_cases h2 : f.size ≤ 16777216
  case neg =>
    have HF : Hid (fineB f = false) := fineB_no (fun h => h2 h.s1)
    have g2 : decide (f.size ≤ 16777216) = false := decide_eq_false h2
    go_enter Try.func72, Try.ntmps72
    go_wp2_with fail
    go_ret
    exact ⟨ret_bool HF.out.symm, ((Below.refl _ _).alloc (Nat.le_refl _) _)⟩
  by_cases h3 : keyOk f.least = true
  case neg =>
    have HF : Hid (fineB f = false) := fineB_no (fun h => h3 h.least)
    have HN : Hid (keyOk f.least = false) := Bool.eq_false_iff.2 h3
    clear h3
    go_enter Try.func72, Try.ntmps72
    go_wp2_with fail
    refine Calls.mono (key_at _ _ f.least _ (HL.out.below ((Below.refl _ _).alloc (Nat.le_refl _) _)) HN.out) ?_
    rintro _ w1 ⟨rfl, rfl⟩
    go_wp2_with fail
    go_ret
    exact ⟨ret_bool HF.out.symm, ((Below.refl _ _).alloc (Nat.le_refl _) _)⟩
  have HKL := Lib.hid h3
  clear h3
  by_cases h4 : keyOk f.most = true
  case neg =>
    have HF : Hid (fineB f = false) := fineB_no (fun h => h4 h.most)
    have HN : Hid (keyOk f.most = false) := Bool.eq_false_iff.2 h4
    clear h4
    go_enter Try.func72, Try.ntmps72
    go_wp2_with fail
    refine Calls.mono (key_at _ _ f.least _ (HL.out.below ((Below.refl _ _).alloc (Nat.le_refl _) _)) HKL.out) ?_
    rintro _ w1 ⟨rfl, rfl⟩
    go_wp2_with fail
    refine Calls.mono (key_at _ _ f.most _ (HM.out.below ((Below.refl _ _).alloc (Nat.le_refl _) _)) HN.out) ?_
    rintro _ w1 ⟨rfl, rfl⟩
    go_wp2_with fail
    go_ret
    exact ⟨ret_bool HF.out.symm, ((Below.refl _ _).alloc (Nat.le_refl _) _)⟩
  have HKM := Lib.hid h4
  clear h4
  obtain ⟨cc, hcc⟩ : ∃ c, Ent.bcmp f.least f.most = c := ⟨_, rfl⟩
  have HC := Lib.hid hcc
  clear hcc
  by_cases h5 : cc ≤ 0
  case neg =>
    have HF : Hid (fineB f = false) := fineB_no (fun h => h5 (by rw [← HC.out]; exact h.order))
    have g5 : decide (cc ≤ 0) = false := decide_eq_false h5
    go_enter Try.func72, Try.ntmps72
    go_wp2_with fail
    refine Calls.mono (key_at _ _ f.least _ (HL.out.below ((Below.refl _ _).alloc (Nat.le_refl _) _)) HKL.out) ?_
    rintro _ w1 ⟨rfl, rfl⟩
    go_wp2_with fail
    refine Calls.mono (key_at _ _ f.most _ (HM.out.below ((Below.refl _ _).alloc (Nat.le_refl _) _)) HKM.out) ?_
    rintro _ w1 ⟨rfl, rfl⟩
    go_wp2_with fail
    refine Calls.mono (bcompare_at _ _ _ _ f.least f.most _ (HL.out.below ((Below.refl _ _).alloc (Nat.le_refl _) _)) (HM.out.below ((Below.refl _ _).alloc (Nat.le_refl _) _)) HC.out) ?_
    rintro _ w1 ⟨rfl, rfl⟩
    go_wp2_with fail
    go_ret
    exact ⟨ret_bool HF.out.symm, ((Below.refl _ _).alloc (Nat.le_refl _) _)⟩
  by_cases h6 : 1 ≤ f.ents
  case neg =>
    have HF : Hid (fineB f = false) := fineB_no (fun h => h6 h.e0)
    have g6 : decide (1 ≤ f.ents) = false := decide_eq_false h6
    go_enter Try.func72, Try.ntmps72
    go_wp2_with fail
    refine Calls.mono (key_at _ _ f.least _ (HL.out.below ((Below.refl _ _).alloc (Nat.le_refl _) _)) HKL.out) ?_
    rintro _ w1 ⟨rfl, rfl⟩
    go_wp2_with fail
    refine Calls.mono (key_at _ _ f.most _ (HM.out.below ((Below.refl _ _).alloc (Nat.le_refl _) _)) HKM.out) ?_
    rintro _ w1 ⟨rfl, rfl⟩
    go_wp2_with fail
    refine Calls.mono (bcompare_at _ _ _ _ f.least f.most _ (HL.out.below ((Below.refl _ _).alloc (Nat.le_refl _) _)) (HM.out.below ((Below.refl _ _).alloc (Nat.le_refl _) _)) HC.out) ?_
    rintro _ w1 ⟨rfl, rfl⟩
    go_wp2_with fail
    go_ret
    exact ⟨ret_bool HF.out.symm, ((Below.refl _ _).alloc (Nat.le_refl _) _)⟩
  by_cases h7 : f.ents ≤ 16777216
  case neg =>
    have HF : Hid (fineB f = false) := fineB_no (fun h => h7 h.e1)
    have g7 : decide (f.ents ≤ 16777216) = false := decide_eq_false h7
    go_enter Try.func72, Try.ntmps72
    go_wp2_with fail
    refine Calls.mono (key_at _ _ f.least _ (HL.out.below ((Below.refl _ _).alloc (Nat.le_refl _) _)) HKL.out) ?_
    rintro _ w1 ⟨rfl, rfl⟩
    go_wp2_with fail
    refine Calls.mono (key_at _ _ f.most _ (HM.out.below ((Below.refl _ _).alloc (Nat.le_refl _) _)) HKM.out) ?_
    rintro _ w1 ⟨rfl, rfl⟩
    go_wp2_with fail
    refine Calls.mono (bcompare_at _ _ _ _ f.least f.most _ (HL.out.below ((Below.refl _ _).alloc (Nat.le_refl _) _)) (HM.out.below ((Below.refl _ _).alloc (Nat.le_refl _) _)) HC.out) ?_
    rintro _ w1 ⟨rfl, rfl⟩
    go_wp2_with fail
    go_ret
    exact ⟨ret_bool HF.out.symm, ((Below.refl _ _).alloc (Nat.le_refl _) _)⟩
  by_cases h8 : f.mseq ≤ 72057594037927935
  case neg =>
    have HF : Hid (fineB f = false) := fineB_no (fun h => h8 h.seq)
    have g8 : decide (f.mseq ≤ 72057594037927935) = false := decide_eq_false h8
    go_enter Try.func72, Try.ntmps72
    go_wp2_with fail
    refine Calls.mono (key_at _ _ f.least _ (HL.out.below ((Below.refl _ _).alloc (Nat.le_refl _) _)) HKL.out) ?_
    rintro _ w1 ⟨rfl, rfl⟩
    go_wp2_with fail
    refine Calls.mono (key_at _ _ f.most _ (HM.out.below ((Below.refl _ _).alloc (Nat.le_refl _) _)) HKM.out) ?_
    rintro _ w1 ⟨rfl, rfl⟩
    go_wp2_with fail
    refine Calls.mono (bcompare_at _ _ _ _ f.least f.most _ (HL.out.below ((Below.refl _ _).alloc (Nat.le_refl _) _)) (HM.out.below ((Below.refl _ _).alloc (Nat.le_refl _) _)) HC.out) ?_
    rintro _ w1 ⟨rfl, rfl⟩
    go_wp2_with fail
    go_ret
    exact ⟨ret_bool HF.out.symm, ((Below.refl _ _).alloc (Nat.le_refl _) _)⟩
  have HF : Hid (fineB f = true) := fineB_yes ⟨h0, h1, h2, HKL.out, HKM.out, by rw [HC.out]; exact h5, h6, h7, h8⟩
  go_enter Try.func72, Try.ntmps72
  go_wp2_with fail
  refine Calls.mono (key_at _ _ f.least _ (HL.out.below ((Below.refl _ _).alloc (Nat.le_refl _) _)) HKL.out) ?_
  rintro _ w1 ⟨rfl, rfl⟩
  go_wp2_with fail
  refine Calls.mono (key_at _ _ f.most _ (HM.out.below ((Below.refl _ _).alloc (Nat.le_refl _) _)) HKM.out) ?_
  rintro _ w1 ⟨rfl, rfl⟩
  go_wp2_with fail
  refine Calls.mono (bcompare_at _ _ _ _ f.least f.most _ (HL.out.below ((Below.refl _ _).alloc (Nat.le_refl _) _)) (HM.out.below ((Below.refl _ _).alloc (Nat.le_refl _) _)) HC.out) ?_
  rintro _ w1 ⟨rfl, rfl⟩
  go_wp2_with fail
  go_ret
  exact ⟨ret_bool HF.out.symm, ((Below.refl _ _).alloc (Nat.le_refl _) _)⟩
theorem fine_at {r : Bool} (F G : Nat → Prop) (f : Fil) (vl vm : Value) (w : World) (hl : Bytes F w vl f.least) (hm : Bytes G w vm f.most) (hr : fineB f = r) :
    Calls Try.prog 72 #[.agg (filCells f vl vm).toArray] w fun e w' => e = .returned (.bool r) ∧ Below w.heap.size w w' := by subst hr; exact fine_any F G f vl vm w hl hm
end Go.Proofs.Ytkcohhldmhdcfaa
