/- Chapter 12: files in memory; fine. Chapter 12: fine. Chapter 12: how many bytes a short number has. Chapter 12: a set of numbers as a map that the call makes. Chapter 12: how many bytes a version's edit has. -/
import Derived.Test.YtkcohhldmhdcfaaVzVeBase
import Derived.Test.YtkcohhldmhdcfaaVzVeBits
import Derived.Maps.OwnSet
import Derived.Deep.RegionLaw
namespace Go.Proofs.Ytkcohhldmhdcfaa
open Go.RowKit

/-- A file. -/
structure Fil where
  num : Int
  size : Int
  least : List UInt8
  most : List UInt8
  ents : Int
  mseq : Int
def u64In (x : Int) : Prop := 0 ≤ x ∧ x < 18446744073709551616
def i64In (x : Int) : Prop := -9223372036854775808 ≤ x ∧ x ≤ 9223372036854775807
def Fil.wf (f : Fil) : Prop := u64In f.num ∧ i64In f.size ∧ i64In f.ents ∧ u64In f.mseq
def filCells (f : Fil) (vl vm : Value) : List Value := [.int .u64 f.num, .int .i64 f.size, vl, vm, .int .i64 f.ents, .int .u64 f.mseq]
def filK : Kind Fil where
  sz := 6
  R F w cs f := ∃ vl vm, cs = filCells f vl vm ∧ Bytes F w vl f.least ∧ Bytes F w vm f.most ∧ f.wf
  pos := by decide
  len := by rintro F w cs x ⟨vl, vm, rfl, _⟩; rfl
  keep := by rintro F w w' cs x ⟨vl, vm, rfl, h1, h2, h3⟩ hk; exact ⟨vl, vm, rfl, h1.keep hk, h2.keep hk, h3⟩
  mono := by rintro F F' w cs x ⟨vl, vm, rfl, h1, h2, h3⟩ hk; exact ⟨vl, vm, rfl, h1.mono hk, h2.mono hk, h3⟩
  one := by
    rintro F w cs x ⟨vl, vm, rfl, h1, h2, _⟩ u hu
    have g1 := h1.oneCell
    have g2 := h2.oneCell
    simp only [filCells, List.mem_cons, List.not_mem_nil, or_false] at hu
    rcases hu with rfl | rfl | rfl | rfl | rfl | rfl <;> first | rfl | exact g1 | exact g2
def fil0 : Fil := ⟨0, 0, [], [], 0, 0⟩
def fat (l : List Fil) (i : Nat) : Fil := l.getD i fil0
theorem fat_eq {l : List Fil} {i : Nat} (h : i < l.length) : l[i] = fat l i := by simp [fat, h]
theorem fat_mem {l : List Fil} {i : Nat} (h : i < l.length) : fat l i ∈ l := by rw [← fat_eq h]; exact List.getElem_mem h
/-- The six cells of a file. -/
def C6 (b o : Nat) (f : Fil) (vl vm : Value) (w : World) : Prop :=
  w.cell? ⟨b, o, none⟩ = some (.int .u64 f.num) ∧ w.cell? ⟨b, o + 1, none⟩ = some (.int .i64 f.size) ∧ w.cell? ⟨b, o + 2, none⟩ = some vl ∧ w.cell? ⟨b, o + 3, none⟩ = some vm ∧ w.cell? ⟨b, o + 4, none⟩ = some (.int .i64 f.ents) ∧ w.cell? ⟨b, o + 5, none⟩ = some (.int .u64 f.mseq)
theorem C6.keep {B b o : Nat} {f : Fil} {vl vm : Value} {w w' : World} (h : C6 b o f vl vm w) (hb : Below B w w') (hz : b < B) : C6 b o f vl vm w' := by
  have e1 : ∀ k, w'.cell? ⟨b, k, none⟩ = w.cell? ⟨b, k, none⟩ := fun k => hb.cell (p := ⟨b, k, none⟩) hz
  unfold C6 at *
  simp only [e1]
  exact h
theorem C6.blk {b : Nat} {f : Fil} {vl vm : Value} {w : World} {T : TypeId} (h : Blk w b (filCells f vl vm).toArray T) : C6 b 0 f vl vm w :=
  ⟨h.cell rfl, h.cell rfl, h.cell rfl, h.cell rfl, h.cell rfl, h.cell rfl⟩
theorem fils_at {F : Nat → Prop} {w : World} {v : Value} {fs : List Fil} (h : Rw filK F w v fs) (hne : 0 < fs.length) :
    ∃ b off cap, v = .slice (some ⟨b, off, none⟩) fs.length cap ∧ F b ∧ b < w.heap.size ∧ ∀ i, i < fs.length → ∃ vl vm, Bytes F w vl (fat fs i).least ∧ Bytes F w vm (fat fs i).most ∧ (fat fs i).wf ∧ C6 b (off + i * 6) (fat fs i) vl vm w := by
  obtain ⟨b, off, cap, e, hF, hb, _, _, hc⟩ := h.place hne
  refine ⟨b, off, cap, e, hF, hb, fun i hi => ?_⟩
  obtain ⟨cs, ⟨vl, vm, rfl, h1, h2, h3⟩, hes⟩ := hc i hi
  rw [fat_eq hi] at h1 h2 h3 hes
  exact ⟨vl, vm, h1, h2, h3, hes 0 _ rfl, hes 1 _ rfl, hes 2 _ rfl, hes 3 _ rfl, hes 4 _ rfl, hes 5 _ rfl⟩
def lat (ls : List (List Fil)) (i : Nat) : List Fil := ls.getD i []
theorem lat_eq {ls : List (List Fil)} {i : Nat} (h : i < ls.length) : ls[i] = lat ls i := by simp [lat, h]
theorem levs_at {F : Nat → Prop} {w : World} {v : Value} {ls : List (List Fil)} (h : Rw (rowK filK) F w v ls) (hne : 0 < ls.length) :
    ∃ b off cap, v = .slice (some ⟨b, off, none⟩) ls.length cap ∧ F b ∧ b < w.heap.size ∧ ∀ i, i < ls.length → ∃ u, Rw filK F w u (lat ls i) ∧ w.cell? ⟨b, off + i, none⟩ = some u := by
  obtain ⟨b, off, cap, e, hF, hb, _, _, hc⟩ := h.place hne
  refine ⟨b, off, cap, e, hF, hb, fun i hi => ?_⟩
  obtain ⟨cs, ⟨u, rfl, hu⟩, hes⟩ := hc i hi
  have := hes 0 _ rfl
  rw [show (rowK filK).sz = 1 from rfl, Nat.mul_one, Nat.add_zero] at this
  rw [lat_eq hi] at hu
  exact ⟨u, hu, this⟩

/-- A version. -/
structure Ver where
  levels : List (List Fil)
  next : Int
  seq : Int
  log : Int
def maxSeq : Int := 72057594037927935
def keyOk (k : List UInt8) : Bool := decide (1 ≤ k.length) && decide (k.length ≤ 4096)
/-- May a file be? -/
structure Fil.Fine (f : Fil) : Prop where
  num : 1 ≤ f.num
  s0 : 0 ≤ f.size
  s1 : f.size ≤ 16777216
  least : keyOk f.least = true
  most : keyOk f.most = true
  order : Ent.bcmp f.least f.most ≤ 0
  e0 : 1 ≤ f.ents
  e1 : f.ents ≤ 16777216
  seq : f.mseq ≤ maxSeq
open Classical in
noncomputable def fineB (f : Fil) : Bool := decide f.Fine
theorem fineB_iff {f : Fil} : fineB f = true ↔ f.Fine := by unfold fineB; simp
theorem fineB_no {f : Fil} (h : ¬ f.Fine) : fineB f = false := by unfold fineB; simp [h]
theorem fineB_yes {f : Fil} (h : f.Fine) : fineB f = true := fineB_iff.2 h

theorem key_any (F : Nat → Prop) (v : Value) (k : List UInt8) (w : World) (h : Bytes F w v k) :
    Calls Try.prog 114 #[v] w fun e w' => e = .returned (.bool (keyOk k)) ∧ w = w' := by
  obtain ⟨a, c, rfl⟩ := h.isSlice
  clear h
  go_enter Try.func114, Try.ntmps114
  by_cases h1 : 1 ≤ k.length
  · have h1' : (1 : Int) ≤ (k.length : Int) := by omega
    by_cases h2 : k.length ≤ 4096
    · have h2' : (k.length : Int) ≤ 4096 := by omega
      have HK : Hid (keyOk k = true) := by show _ = _; unfold keyOk; simp [h1, h2]
      go_wp2_with fail
      go_ret
      exact ⟨ret_bool HK.out.symm, rfl⟩
    · have h2' : decide ((k.length : Int) ≤ 4096) = false := decide_eq_false (by omega)
      have HK : Hid (keyOk k = false) := by show _ = _; unfold keyOk; simp; omega
      go_wp2_with fail
      go_ret
      exact ⟨ret_bool HK.out.symm, rfl⟩
  · have h1' : decide ((1 : Int) ≤ (k.length : Int)) = false := decide_eq_false (by omega)
    have HK : Hid (keyOk k = false) := by show _ = _; unfold keyOk; simp; omega
    go_wp2_with fail
    go_ret
    exact ⟨ret_bool HK.out.symm, rfl⟩
theorem key_at {r : Bool} (F : Nat → Prop) (v : Value) (k : List UInt8) (w : World) (h : Bytes F w v k) (hr : keyOk k = r) :
    Calls Try.prog 114 #[v] w fun e w' => e = .returned (.bool r) ∧ w = w' := by subst hr; exact key_any F v k w h
theorem bcompare_at {r : Int} (F G : Nat → Prop) (va vb : Value) (a b : List UInt8) (w : World) (ha : Bytes F w va a) (hb : Bytes G w vb b) (hr : Ent.bcmp a b = r) :
    Calls Try.prog 73 #[va, vb] w fun e w' => e = .returned (.int .i64 r) ∧ w' = w := by subst hr; exact bytesCompare_any F G va vb a b w ha hb
end Go.Proofs.Ytkcohhldmhdcfaa

namespace Go.Proofs.Ytkcohhldmhdcfaa
open Go.RowKit

set_option maxRecDepth 100000 in
set_option maxHeartbeats 4000000 in
theorem fine_any (F G : Nat → Prop) (f : Fil) (vl vm : Value) (w : World) (hl : Bytes F w vl f.least) (hm : Bytes G w vm f.most) :
    Calls Try.prog 72 #[.agg (filCells f vl vm).toArray] w fun e w' => e = .returned (.bool (fineB f)) ∧ Below w.heap.size w w' := by
  obtain ⟨la, lc, rfl⟩ := hl.isSlice
  obtain ⟨ma, mc, rfl⟩ := hm.isSlice
  have HL := Lib.hid hl
  have HM := Lib.hid hm
  clear hl hm
  unfold filCells
  by_cases h0 : (1 : Int) ≤ f.num
  case neg =>
    have HF : Hid (fineB f = false) := fineB_no (fun h => h0 h.num)
    have g0 : decide ((1 : Int) ≤ f.num) = false := decide_eq_false h0
    go_enter Try.func72, Try.ntmps72
    go_wp2_with fail
    go_ret
    exact ⟨ret_bool HF.out.symm, ((Below.refl _ _).alloc (Nat.le_refl _) _)⟩
  by_cases h1 : 0 ≤ f.size
  case neg =>
    have HF : Hid (fineB f = false) := fineB_no (fun h => h1 h.s0)
    have g1 : decide (0 ≤ f.size) = false := decide_eq_false h1
    go_enter Try.func72, Try.ntmps72
    go_wp2_with fail
    go_ret
    exact ⟨ret_bool HF.out.symm, ((Below.refl _ _).alloc (Nat.le_refl _) _)⟩
  by_cases h2 : f.size ≤ 16777216
  case neg =>
    have HF : Hid (fineB f = false) := fineB_no (fun h => h2 h.s1)
    have g2 : decide (f.size ≤ 16777216) = false := decide_eq_false h2
    go_enter Try.func72, Try.ntmps72
    go_wp2_with fail
    go_ret
    exact ⟨ret_bool HF.out.symm, ((Below.refl _ _).alloc (Nat.le_refl _) _)⟩
  by_cases h3 : keyOk f.least = true
  case neg =>
    have HF : Hid (fineB f = false) := fineB_no (fun h => h3 h.least)
    have HN : Hid (keyOk f.least = false) := Bool.eq_false_iff.2 h3
    clear h3
    go_enter Try.func72, Try.ntmps72
    go_wp2_with fail
    refine Calls.mono (key_at _ _ f.least _ (HL.out.below ((Below.refl _ _).alloc (Nat.le_refl _) _)) HN.out) ?_
    rintro _ w1 ⟨rfl, rfl⟩
    go_wp2_with fail
    go_ret
    exact ⟨ret_bool HF.out.symm, ((Below.refl _ _).alloc (Nat.le_refl _) _)⟩
  have HKL := Lib.hid h3
  clear h3
  by_cases h4 : keyOk f.most = true
  case neg =>
    have HF : Hid (fineB f = false) := fineB_no (fun h => h4 h.most)
    have HN : Hid (keyOk f.most = false) := Bool.eq_false_iff.2 h4
    clear h4
    go_enter Try.func72, Try.ntmps72
    go_wp2_with fail
    refine Calls.mono (key_at _ _ f.least _ (HL.out.below ((Below.refl _ _).alloc (Nat.le_refl _) _)) HKL.out) ?_
    rintro _ w1 ⟨rfl, rfl⟩
    go_wp2_with fail
    refine Calls.mono (key_at _ _ f.most _ (HM.out.below ((Below.refl _ _).alloc (Nat.le_refl _) _)) HN.out) ?_
    rintro _ w1 ⟨rfl, rfl⟩
    go_wp2_with fail
    go_ret
    exact ⟨ret_bool HF.out.symm, ((Below.refl _ _).alloc (Nat.le_refl _) _)⟩
  have HKM := Lib.hid h4
  clear h4
  obtain ⟨cc, hcc⟩ : ∃ c, Ent.bcmp f.least f.most = c := ⟨_, rfl⟩
  have HC := Lib.hid hcc
  clear hcc
  by_cases h5 : cc ≤ 0
  case neg =>
    have HF : Hid (fineB f = false) := fineB_no (fun h => h5 (by rw [← HC.out]; exact h.order))
    have g5 : decide (cc ≤ 0) = false := decide_eq_false h5
    go_enter Try.func72, Try.ntmps72
    go_wp2_with fail
    refine Calls.mono (key_at _ _ f.least _ (HL.out.below ((Below.refl _ _).alloc (Nat.le_refl _) _)) HKL.out) ?_
    rintro _ w1 ⟨rfl, rfl⟩
    go_wp2_with fail
    refine Calls.mono (key_at _ _ f.most _ (HM.out.below ((Below.refl _ _).alloc (Nat.le_refl _) _)) HKM.out) ?_
    rintro _ w1 ⟨rfl, rfl⟩
    go_wp2_with fail
    refine Calls.mono (bcompare_at _ _ _ _ f.least f.most _ (HL.out.below ((Below.refl _ _).alloc (Nat.le_refl _) _)) (HM.out.below ((Below.refl _ _).alloc (Nat.le_refl _) _)) HC.out) ?_
    rintro _ w1 ⟨rfl, rfl⟩
    go_wp2_with fail
    go_ret
    exact ⟨ret_bool HF.out.symm, ((Below.refl _ _).alloc (Nat.le_refl _) _)⟩
  by_cases h6 : 1 ≤ f.ents
  case neg =>
    have HF : Hid (fineB f = false) := fineB_no (fun h => h6 h.e0)
    have g6 : decide (1 ≤ f.ents) = false := decide_eq_false h6
    go_enter Try.func72, Try.ntmps72
    go_wp2_with fail
    refine Calls.mono (key_at _ _ f.least _ (HL.out.below ((Below.refl _ _).alloc (Nat.le_refl _) _)) HKL.out) ?_
    rintro _ w1 ⟨rfl, rfl⟩
    go_wp2_with fail
    refine Calls.mono (key_at _ _ f.most _ (HM.out.below ((Below.refl _ _).alloc (Nat.le_refl _) _)) HKM.out) ?_
    rintro _ w1 ⟨rfl, rfl⟩
    go_wp2_with fail
    refine Calls.mono (bcompare_at _ _ _ _ f.least f.most _ (HL.out.below ((Below.refl _ _).alloc (Nat.le_refl _) _)) (HM.out.below ((Below.refl _ _).alloc (Nat.le_refl _) _)) HC.out) ?_
    rintro _ w1 ⟨rfl, rfl⟩
    go_wp2_with fail
    go_ret
    exact ⟨ret_bool HF.out.symm, ((Below.refl _ _).alloc (Nat.le_refl _) _)⟩
  by_cases h7 : f.ents ≤ 16777216
  case neg =>
    have HF : Hid (fineB f = false) := fineB_no (fun h => h7 h.e1)
    have g7 : decide (f.ents ≤ 16777216) = false := decide_eq_false h7
    go_enter Try.func72, Try.ntmps72
    go_wp2_with fail
    refine Calls.mono (key_at _ _ f.least _ (HL.out.below ((Below.refl _ _).alloc (Nat.le_refl _) _)) HKL.out) ?_
    rintro _ w1 ⟨rfl, rfl⟩
    go_wp2_with fail
    refine Calls.mono (key_at _ _ f.most _ (HM.out.below ((Below.refl _ _).alloc (Nat.le_refl _) _)) HKM.out) ?_
    rintro _ w1 ⟨rfl, rfl⟩
    go_wp2_with fail
    refine Calls.mono (bcompare_at _ _ _ _ f.least f.most _ (HL.out.below ((Below.refl _ _).alloc (Nat.le_refl _) _)) (HM.out.below ((Below.refl _ _).alloc (Nat.le_refl _) _)) HC.out) ?_
    rintro _ w1 ⟨rfl, rfl⟩
    go_wp2_with fail
    go_ret
    exact ⟨ret_bool HF.out.symm, ((Below.refl _ _).alloc (Nat.le_refl _) _)⟩
  by_cases h8 : f.mseq ≤ 72057594037927935
  case neg =>
    have HF : Hid (fineB f = false) := fineB_no (fun h => h8 h.seq)
    have g8 : decide (f.mseq ≤ 72057594037927935) = false := decide_eq_false h8
    go_enter Try.func72, Try.ntmps72
    go_wp2_with fail
    refine Calls.mono (key_at _ _ f.least _ (HL.out.below ((Below.refl _ _).alloc (Nat.le_refl _) _)) HKL.out) ?_
    rintro _ w1 ⟨rfl, rfl⟩
    go_wp2_with fail
    refine Calls.mono (key_at _ _ f.most _ (HM.out.below ((Below.refl _ _).alloc (Nat.le_refl _) _)) HKM.out) ?_
    rintro _ w1 ⟨rfl, rfl⟩
    go_wp2_with fail
    refine Calls.mono (bcompare_at _ _ _ _ f.least f.most _ (HL.out.below ((Below.refl _ _).alloc (Nat.le_refl _) _)) (HM.out.below ((Below.refl _ _).alloc (Nat.le_refl _) _)) HC.out) ?_
    rintro _ w1 ⟨rfl, rfl⟩
    go_wp2_with fail
    go_ret
    exact ⟨ret_bool HF.out.symm, ((Below.refl _ _).alloc (Nat.le_refl _) _)⟩
  have HF : Hid (fineB f = true) := fineB_yes ⟨h0, h1, h2, HKL.out, HKM.out, by rw [HC.out]; exact h5, h6, h7, h8⟩
  go_enter Try.func72, Try.ntmps72
  go_wp2_with fail
  refine Calls.mono (key_at _ _ f.least _ (HL.out.below ((Below.refl _ _).alloc (Nat.le_refl _) _)) HKL.out) ?_
  rintro _ w1 ⟨rfl, rfl⟩
  go_wp2_with fail
  refine Calls.mono (key_at _ _ f.most _ (HM.out.below ((Below.refl _ _).alloc (Nat.le_refl _) _)) HKM.out) ?_
  rintro _ w1 ⟨rfl, rfl⟩
  go_wp2_with fail
  refine Calls.mono (bcompare_at _ _ _ _ f.least f.most _ (HL.out.below ((Below.refl _ _).alloc (Nat.le_refl _) _)) (HM.out.below ((Below.refl _ _).alloc (Nat.le_refl _) _)) HC.out) ?_
  rintro _ w1 ⟨rfl, rfl⟩
  go_wp2_with fail
  go_ret
  exact ⟨ret_bool HF.out.symm, ((Below.refl _ _).alloc (Nat.le_refl _) _)⟩
theorem fine_at {r : Bool} (F G : Nat → Prop) (f : Fil) (vl vm : Value) (w : World) (hl : Bytes F w vl f.least) (hm : Bytes G w vm f.most) (hr : fineB f = r) :
    Calls Try.prog 72 #[.agg (filCells f vl vm).toArray] w fun e w' => e = .returned (.bool r) ∧ Below w.heap.size w w' := by subst hr; exact fine_any F G f vl vm w hl hm
end Go.Proofs.Ytkcohhldmhdcfaa

namespace Go.Proofs.Ytkcohhldmhdcfaa
open Go.RowKit

/-- How many bytes a short number has. -/
def sizeN (n : Nat) : Nat := if h : n < 128 then 1 else sizeN (n / 128) + 1
termination_by n
decreasing_by omega
theorem sizeN_small {n : Nat} (h : n < 128) : sizeN n = 1 := by rw [sizeN, dif_pos h]
theorem sizeN_more {n : Nat} (h : ¬ n < 128) : sizeN n = sizeN (n / 128) + 1 := by rw [sizeN, dif_neg h]
theorem bitLen_pos {n : Nat} (h : n ≠ 0) : 1 ≤ Lib.bitLen n := by
  unfold Lib.bitLen
  rw [show (64 : Nat) = 63 + 1 from rfl, Lib.bitLenAux, if_neg h]
  omega
theorem sizeN_bits (n : Nat) (hn : n < 18446744073709551616) : max 1 ((Lib.bitLen n + 6) / 7) = sizeN n := by
  induction n using Nat.strongRecOn with
  | ind n ih =>
    by_cases h : n < 128
    · rw [sizeN_small h]
      have : Lib.bitLen n ≤ 7 := Lib.bitLen_le n 7 (by omega) (by omega)
      omega
    · rw [sizeN_more h, ← ih (n / 128) (by omega) (by omega)]
      have h1 : Lib.bitLen n = 7 + Lib.bitLen (n / 2 ^ 7) := Lib.bitLen_shift 7 n (by show 128 ≤ n; omega) hn
      have h2 := bitLen_pos (n := n / 128) (by omega)
      rw [h1, show (2 : Nat) ^ 7 = 128 from rfl]
      omega
theorem sizeN_le (n : Nat) (h : n < 18446744073709551616) : sizeN n ≤ 10 := by
  rw [← sizeN_bits n h]
  have : Lib.bitLen n ≤ 64 := Lib.bitLen_le n 64 (by omega) (by omega)
  omega
theorem wsize_any (x : Int) (w : World) (h : u64In x) : Calls Try.prog 117 #[.int .u64 x] w fun e w' => e = .returned (.int .i64 (sizeN x.toNat : Int)) ∧ w' = w := by
  obtain ⟨h0, h1⟩ := h
  have HL := Lib.hid (Lib.bitLen_le x.toNat 64 (by omega) (by omega))
  have HS := Lib.hid (sizeN_bits x.toNat (by omega))
  have HC := Lib.hid (fun w => len64_any x w h0 (by omega))
  clear h0 h1
  go_enter Try.func117, Try.ntmps117
  go_wp2_with fail
  refine Calls.mono (HC.out _) ?_
  rintro _ w1 ⟨rfl, rfl⟩
  obtain ⟨b, hb⟩ : ∃ b, Lib.bitLen x.toNat = b := ⟨_, rfl⟩
  have hl := HL.out
  rw [hb] at hl HS
  rw [hb]
  clear hb HL HC
  go_wp2_with fail
  go_ret
  exact ⟨ret_int (by rw [← HS.out]; omega), rfl⟩
end Go.Proofs.Ytkcohhldmhdcfaa

namespace Go.Proofs.Ytkcohhldmhdcfaa
open Go.RowKit Go.Maps

/-- Block b is a map in which just the numbers of S are true. -/
def SetB (w : World) (b n : Nat) (S : List Int) : Prop :=
  ∃ D : DataW Unit, w.ownsMap Try.prog 23 (plainElem Try.prog 4) b n D ∧ ∀ x, u64In x → D.atKey (.int .u64 x) (.lit (.bool false)) = .lit (.bool (decide (x ∈ S)))
theorem key_u64 : Keyed Try.prog 23 := int_keyed Try.underlying23
set_option maxRecDepth 100000 in
theorem wf_u64 {x : Int} (h : u64In x) : (Lit.int .u64 x).wf = true := by
  obtain ⟨h0, h1⟩ := h
  simp [Lit.wf, IntKind.min, IntKind.max, IntKind.signed, IntKind.bits]
  omega
set_option maxRecDepth 100000 in
theorem zero_bool (w : World) : (zeroValue 4).run Try.prog w = .ok (.bool false) w := by kernel_rfl
set_option maxRecDepth 100000 in
theorem plain_bool_inv {v : Value} {z : DataW Unit × List MemPlace} (h : plainElem Try.prog 4 v = some z) : ∃ b, v = .bool b ∧ z = (.lit (.bool b), []) := by
  unfold plainElem at h
  rw [Try.underlying4] at h
  cases v <;> simp at h
  exact ⟨_, rfl, h.symm⟩
theorem SetB.lt {w : World} {b n : Nat} {S : List Int} (h : SetB w b n S) : b < w.heap.size := by obtain ⟨D, h, _⟩ := h; exact h.lt
set_option maxRecDepth 100000 in
theorem SetB.made (w : World) : SetB (w.alloc (.map #[] 0)) w.heap.size 0 [] :=
  ⟨.map [], World.ownsMap_made _ _ _ _, fun x _ => by simp [DataW.atKey]⟩
theorem SetB.same {w w' : World} {b n : Nat} {S : List Int} (h : SetB w b n S) (hb : w'.heap[b]? = w.heap[b]?) : SetB w' b n S := by
  obtain ⟨D, ⟨es, clock, h1, h2⟩, h3⟩ := h
  exact ⟨D, ⟨es, clock, hb.trans h1, h2⟩, h3⟩
theorem SetB.below {w w' : World} {b n : Nat} {S : List Int} (h : SetB w b n S) (hb : Below w.heap.size w w') : SetB w' b n S := h.same (hb.block b h.lt)
set_option maxRecDepth 100000 in
theorem SetB.look {w : World} {b n : Nat} {S : List Int} (h : SetB w b n S) {x : Int} (hx : u64In x) : (Instr.lookup 102 (.map (some b)) (.int .u64 x) false).run Try.prog w = .ok (.bool (decide (x ∈ S))) w := by
  obtain ⟨D, h, hat⟩ := h
  obtain ⟨v, ps, hrun, hv⟩ := h.lookup key_u64 Try.underlying102 (zero_bool w) (plainElem_bool Try.underlying4 false) (keyOf_int_mk Try.underlying23 (wf_u64 hx))
  rw [hat x hx] at hv
  obtain ⟨c, rfl, hc⟩ := plain_bool_inv hv
  injection hc with hc _
  injection hc with hc
  injection hc with hc
  rw [hc]
  exact hrun
set_option maxRecDepth 100000 in
theorem SetB.put {w : World} {b n : Nat} {S : List Int} (h : SetB w b n S) {x : Int} (hx : u64In x) (hn : n < 1000000000) : ∃ w', (Instr.mapUpdate 102 (.map (some b)) (.int .u64 x) (.bool true)).run Try.prog w = .ok () w' ∧ SetB w' b (n + 1) (x :: S) ∧ Wrote (fun k => k = b) w w' := by
  obtain ⟨D, h, hat⟩ := h
  obtain ⟨w', h1, h2, h3⟩ := h.update key_u64 Try.underlying102 (by unfold maxLen; omega) (keyOf_int_mk Try.underlying23 (wf_u64 hx)) (plainElem_bool Try.underlying4 true)
  refine ⟨w', h1, ⟨_, h2, fun y hy => ?_⟩, ⟨h3.os, h3.tape, h3.output, h3.size, fun k hk hne => h3.block k hk (fun e => hne (Option.some.inj e))⟩⟩
  by_cases e : y = x
  · subst e
    rw [atKey_put_same h.isMap (by trivial)]
    simp
  · rw [atKey_put_other (by intro e2; injection e2 with _ e2; exact e e2), hat y hy]
    simp [e]
set_option maxRecDepth 100000 in
theorem wpList_set_put {ops : Array Oper} {rest : List Oper} {o : Oper} {a : Act} {w : World} {Q : Exit → Act → World → Prop} (hg : o.guard = none) (m x v : Operand) (hop : o.op = Op.mapUpdate 102 m x v) (hd : o.dst = none) {b n : Nat} {S : List Int} (y : Int)
    (hm : a.eval m = .map (some b)) (hx : a.eval x = .int .u64 y) (hv : a.eval v = .bool true) (h : SetB w b n S) (hy : u64In y) (hn : n < 1000000000)
    (hK : ∀ w', SetB w' b (n + 1) (y :: S) → Wrote (fun k => k = b) w w' → wpList Try.prog ops Q rest a w') : wpList Try.prog ops Q (o :: rest) a w := by
  refine wpList_plain hg fun K' hK' => ?_
  obtain ⟨w', hrun, r1, r2⟩ := h.put hy hn
  unfold Oper.wp
  simp [execOp, hop, hm, hx, hv, hrun, Result.andThen]
  refine hK' _ _ ?_
  rw [hd]
  exact hK w' r1 r2
end Go.Proofs.Ytkcohhldmhdcfaa

namespace Go.Proofs.Ytkcohhldmhdcfaa
open Go.RowKit

def sizesTo (xs : List Int) (k : Nat) : Nat := ((xs.take k).map fun x => sizeN x.toNat).sum
theorem sizesTo_succ {xs : List Int} {k : Nat} (h : k < xs.length) : sizesTo xs (k + 1) = sizesTo xs k + sizeN (xs[k]).toNat := by
  unfold sizesTo
  rw [List.take_succ_eq_append_getElem h, List.map_append, List.sum_append]
  simp
theorem sizesTo_le {xs : List Int} (h : ∀ x ∈ xs, u64In x) : ∀ k, k ≤ xs.length → sizesTo xs k ≤ 10 * k
  | 0, _ => by simp [sizesTo]
  | k + 1, hk => by
    have h1 := sizesTo_le h k (by omega)
    have h2 := sizeN_le (xs[k]'(by omega)).toNat (by have := h _ (List.getElem_mem (show k < xs.length by omega)); unfold u64In at this; omega)
    rw [sizesTo_succ (by omega)]
    omega
def sizes (xs : List Int) : Nat := sizesTo xs xs.length
def CountPost (nb : Nat) (c : Nat) (w : World) (x : Ending) (w' : World) : Prop := x = .returned (.tuple #[]) ∧ Wrote (fun k => k = nb) w w' ∧ Blk w' nb #[.int .i64 (c : Int)] 3

set_option maxRecDepth 100000 in
set_option maxHeartbeats 4000000 in
theorem count_any (F : Nat → Prop) (v : Value) (xs : List Int) (nb c : Nat) (w : World) (h : Rw u64K F w v xs) (hF : ∀ k, F k → k ≠ nb) (hx : ∀ x ∈ xs, u64In x) (hb : Blk w nb #[.int .i64 (c : Int)] 3) (hl : xs.length ≤ 100) (hc : c ≤ 1000000000) :
    Calls Try.prog 116 #[v, .pointer (some ⟨nb, 0, none⟩)] w (CountPost nb (c + sizes xs) w) := by
  obtain ⟨xa, ca, rfl⟩ := h.isSlice
  have HA : Hid (Rw u64K (· ≠ nb) w (.slice xa xs.length ca) xs) := h.mono fun k _ hk => hF k hk
  have HX := Lib.hid hx
  have HB := Lib.hid hb
  have HS := Lib.hid (fun k hk => sizesTo_le hx k hk)
  clear h hx hb
  obtain ⟨n, hn⟩ : ∃ n, xs.length = n := ⟨_, rfl⟩
  have HN := Lib.hid hn
  rw [hn] at HA hl
  rw [hn]
  clear hn
  go_enter Try.func116, Try.ntmps116
  go_wp2_with fail
  go_loopw [7] (fun iv wr => ∃ (k : Nat), iv = .int .i64 (k : Int) ∧ k ≤ n ∧ Hid (Wrote (fun k => k = nb) w wr) ∧ Hid (Blk wr nb #[.int .i64 ((c + sizesTo xs k : Nat) : Int)] 3)) (fun iv _ => n - (intOf iv).toNat)
  case atStart => exact ⟨0, rfl, by omega, Wrote.of_below (Below.refl _ _), HB.out⟩
  case round =>
    obtain ⟨k, rfl, hk, HW, HBk⟩ := hrel
    clear HB
    by_cases hlt : k < n
    · have t1 : (k : Int) < (n : Int) := by omega
      have t3 : 0 ≤ (k : Int) := by omega
      have hk1 : k < xs.length := by rw [HN.out]; exact hlt
      have HAr : Hid (Rw u64K (· ≠ nb) wr (.slice xa n ca) xs) := HA.out.keep fun j hj hF => HW.out.block j hj hF
      obtain ⟨ba, oa, capa, ea, hba, hca⟩ := u64s_at HAr.out (by omega)
      injection ea with e1 e2 e3
      subst e1 e3
      clear e2
      have c0 := hca k hk1
      have HU := Lib.hid (HX.out _ (List.getElem_mem hk1))
      have HSS := Lib.hid (sizesTo_succ hk1)
      have HSL := HS.out k (by omega)
      obtain ⟨x, hx⟩ : ∃ x, xs[k] = x := ⟨_, rfl⟩
      rw [hx] at c0 HU HSS
      obtain ⟨z, hz⟩ : ∃ z, sizeN x.toNat = z := ⟨_, rfl⟩
      have HZC : Hid (∀ w, Calls Try.prog 117 #[.int .u64 x] w fun e w' => e = .returned (.int .i64 (z : Int)) ∧ w' = w) := fun w => by rw [← hz]; exact wsize_any x w HU.out
      have hzl : z ≤ 10 := by rw [← hz]; exact sizeN_le _ (by have := HU.out; unfold u64In at this; omega)
      rw [hz] at HSS
      obtain ⟨d, hd⟩ : ∃ d, c + sizesTo xs k = d := ⟨_, rfl⟩
      have hdl : d ≤ 1000001000 := by omega
      have HDD : Hid (c + sizesTo xs (k + 1) = d + z) := by show _ = _; rw [HSS.out]; omega
      rw [hd] at HBk
      clear hca hx hz hd hba HSL
      go_upto_region 3 with fail
      have n0 : wr.drew.cell? ⟨nb, 0, none⟩ = some (.int .i64 (d : Int)) := HBk.out.cell rfl
      have n1 : wr.drew.frozen? ⟨nb, 0, none⟩ = false := HBk.out.free 0
      have s1 : IntKind.i64.wrap ((d : Int) + (z : Int)) = (d : Int) + (z : Int) := wrap_mid (by omega) (by omega)
      go_region_law (first
        | (go_simp; go_at_call 117; refine Calls.mono (HZC.out _) ?_; rintro _ x1 ⟨rfl, rfl⟩))
      all_goals
        go_upto_region 4 with fail
        refine wp_gen fun w5 hw5 => ?_
        have HB5 : Hid (Blk w5 nb #[.int .i64 ((c + sizesTo xs (k + 1) : Nat) : Int)] 3) := by
          rw [hw5, HDD.out]
          have h5 := HBk.out.set 0 (.int .i64 ((d : Int) + (z : Int)))
          rw [show ((d + z : Nat) : Int) = (d : Int) + (z : Int) by omega]
          exact h5
        have HW5 : Hid (Wrote (fun k => k = nb) w w5) := by rw [hw5]; exact (HW.out.drewN 1).setCell _ _ (.inl rfl)
        clear hw5 HBk HW n0 n1 s1 c0
        go_wp2_with fail
        go_roundw
        · exact ⟨k + 1, by go_num, by omega, HW5.out, HB5.out⟩
        · simp only [intOf]; omega
    · have t1 : ¬ (k : Int) < (n : Int) := by omega
      have hkn : k = n := by omega
      have HP : Hid (CountPost nb (c + sizes xs) w (.returned (.tuple #[])) wr) := ⟨rfl, HW.out, by unfold sizes; rw [HN.out, ← hkn]; exact HBk.out⟩
      clear HBk hkn
      go_wp2_with fail
      go_end0
      exact HP.out
end Go.Proofs.Ytkcohhldmhdcfaa
