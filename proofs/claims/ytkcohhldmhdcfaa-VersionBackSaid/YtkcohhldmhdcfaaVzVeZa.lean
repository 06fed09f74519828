/- Chapter 12: the chapter's examples, plain. -/
import Derived.Test.YtkcohhldmhdcfaaVzVeY
namespace Go.Proofs.Ytkcohhldmhdcfaa
open Go.RowKit

instance (f : Fil) : Decidable f.Fine :=
  decidable_of_iff (1 ≤ f.num ∧ 0 ≤ f.size ∧ f.size ≤ 16777216 ∧ keyOk f.least = true ∧ keyOk f.most = true ∧ Ent.bcmp f.least f.most ≤ 0 ∧ 1 ≤ f.ents ∧ f.ents ≤ 16777216 ∧ f.mseq ≤ maxSeq)
    ⟨fun ⟨h1, h2, h3, h4, h5, h6, h7, h8, h9⟩ => ⟨h1, h2, h3, h4, h5, h6, h7, h8, h9⟩, fun h => ⟨h.num, h.s0, h.s1, h.least, h.most, h.order, h.e0, h.e1, h.seq⟩⟩
instance (lv : Nat) (a b : Fil) : Decidable (behind lv a b) := by unfold behind; infer_instance
instance (next : Int) (ls : List (List Fil)) (i k : Nat) : Decidable (OkAt next ls i k) :=
  decidable_of_iff ((fat (lat ls i) k).Fine ∧ (fat (lat ls i) k).num ∉ nums ls i k ∧ (fat (lat ls i) k).num < next ∧ (0 < k → behind i (fat (lat ls i) (k - 1)) (fat (lat ls i) k)))
    ⟨fun ⟨h1, h2, h3, h4⟩ => ⟨h1, h2, h3, h4⟩, fun h => ⟨h.fine, h.new, h.next, h.order⟩⟩
def goodC (v : Ver) : Bool := (List.range v.levels.length).all fun i => (List.range (lat v.levels i).length).all fun k => decide (OkAt v.next v.levels i k)
theorem goodC_iff {v : Ver} : goodC v = true ↔ Good v := by
  unfold goodC Good
  simp only [List.all_eq_true, List.mem_range, decide_eq_true_eq]
  exact ⟨fun h => ⟨h, fun _ hk => by omega⟩, fun h => h.lev⟩
/-- A version with few files. -/
theorem chkW_few {v : Ver} (h1 : Hdr v) (h2 : goodC v = true) (hw : ∀ i, i < v.levels.length → ∀ f ∈ lat v.levels i, f.wf) (hv : v.wf) (hc : cntTo v.levels v.levels.length ≤ 100) : chkW v = 0 := by
  have hg := goodC_iff.1 h2
  have h5 := h1.five
  have hl := levsTo_le (ls := v.levels) (by omega) hw hg.fine v.levels.length (Nat.le_refl _)
  have hs : sizes [v.next, v.seq, v.log, (cntTo v.levels v.levels.length : Int)] ≤ 40 := sizes_le fun x hx => by
    simp only [List.mem_cons, List.not_mem_nil, or_false] at hx
    rcases hx with rfl | rfl | rfl | rfl
    · exact hv.1
    · exact hv.2.1
    · exact hv.2.2
    · constructor <;> omega
  refine chkW_ok h1 hg fun h => ?_
  unfold lenV at h
  omega

def fA : Fil := lfil 1 [97] [99]
def fB : Fil := lfil 2 [99] [100]
def fC : Fil := lfil 2 [100] [101]
def vOne : Ver := ⟨[[], [fA], [], [], []], 2, 0, 0⟩
def vBad : Ver := ⟨[[], [fA, fB], [], [], []], 3, 0, 0⟩
def vTwo : Ver := ⟨[[], [fA, fC], [], [], []], 3, 0, 0⟩
def eDrop : Edi := ⟨[(1, 9)], [], 3, 0, 0⟩
theorem wf_lfil {n : Int} {ks vs : List UInt8} (hn : u64In n) : (lfil n ks vs).wf := ⟨hn, ⟨by show (-9223372036854775808 : Int) ≤ 100; decide, by show (100 : Int) ≤ 9223372036854775807; decide⟩, ⟨by show (-9223372036854775808 : Int) ≤ 1; decide, by show (1 : Int) ≤ 9223372036854775807; decide⟩, ⟨by show (0 : Int) ≤ 1; decide, by show (1 : Int) < 18446744073709551616; decide⟩⟩
theorem u64_0 : u64In 0 := ⟨by decide, by decide⟩
theorem u64_1 : u64In 1 := ⟨by decide, by decide⟩
theorem u64_2 : u64In 2 := ⟨by decide, by decide⟩
theorem u64_3 : u64In 3 := ⟨by decide, by decide⟩
theorem chk_first : chkW firstV = 0 := chkW_few ⟨rfl, by decide, by decide, by decide, by decide⟩ (by decide +kernel) (fun i hi f hf => by
  match i, hi with
  | 0, _ | 1, _ | 2, _ | 3, _ | 4, _ => cases hf) ⟨u64_1, u64_0, u64_0⟩ (by decide)
theorem chk_vOne : chkW vOne = 0 := chkW_few ⟨rfl, by decide, by decide, by decide, by decide⟩ (by decide +kernel) (fun i hi f hf => by
  match i, hi with
  | 0, _ | 2, _ | 3, _ | 4, _ => cases hf
  | 1, _ =>
    have : f = fA := by simpa [vOne, lat] using hf
    rw [this]
    exact wf_lfil u64_1) ⟨u64_2, u64_0, u64_0⟩ (by decide)
theorem chk_vTwo : chkW vTwo = 0 := chkW_few ⟨rfl, by decide, by decide, by decide, by decide⟩ (by decide +kernel) (fun i hi f hf => by
  match i, hi with
  | 0, _ | 2, _ | 3, _ | 4, _ => cases hf
  | 1, _ =>
    have : f = fA ∨ f = fC := by simpa [vTwo, lat] using hf
    rcases this with rfl | rfl
    · exact wf_lfil u64_1
    · exact wf_lfil u64_2) ⟨u64_3, u64_0, u64_0⟩ (by decide)
theorem chk_vBad : chkW vBad = 2 := chkW_bad (i := 1) (k := 1) (by decide) (by decide) (by decide +kernel)
theorem noClash_of {ls : List (List Fil)} {a : Int × Fil} (h : hasNum ls a.2.num = false) : ¬ Clash ls [a] := fun ⟨k, hk, hc⟩ => by
  have hk0 : k = 0 := by simpa using hk
  subst hk0
  rcases hc with hc | hc
  · simp [addNums] at hc
  · have h1 : hasNum ls a.2.num = true := hc
    rw [h] at h1
    cases h1
theorem noOdd_of {a : Int × Fil} (h : 0 ≤ a.1 ∧ a.1 < 5) : ¬ OddLev [a] := fun ⟨k, hk, ho⟩ => by
  have hk0 : k = 0 := by simpa using hk
  subst hk0
  exact ho h
theorem ap_one : applyW firstV (addE 2 fA) = (vOne, 0) := applyW_ok (ls := firstV.levels) chk_first rfl (noClash_of (by decide +kernel)) (noOdd_of ⟨by decide, by decide⟩) chk_vOne
theorem new_bad : newV vOne.levels (addE 3 fB) = vBad := rfl
theorem new_two : newV vOne.levels (addE 3 fC) = vTwo := rfl
theorem ap_bad : applyW vOne (addE 3 fB) = (zeroV, 2) := by
  have h := applyW_bad (v := vOne) (e := addE 3 fB) (ls := vOne.levels) chk_vOne rfl (noClash_of (by decide +kernel)) (noOdd_of ⟨by decide, by decide⟩) (by rw [new_bad, chk_vBad]; decide)
  rw [h, new_bad, chk_vBad]
theorem ap_two : applyW vOne (addE 3 fC) = (vTwo, 0) := by
  have h := applyW_ok (v := vOne) (e := addE 3 fC) (ls := vOne.levels) chk_vOne rfl (noClash_of (by decide +kernel)) (noOdd_of ⟨by decide, by decide⟩) (by rw [new_two]; exact chk_vTwo)
  rw [h, new_two]
theorem ap_none : applyW vTwo eDrop = (zeroV, 6) := applyW_none chk_vTwo (by decide +kernel)
theorem over_two : (overB vTwo 1 [98] [100]).length = 2 := by
  unfold overB
  rw [if_pos ⟨chk_vTwo, by decide, by decide⟩]
  decide +kernel
/-- Apply, where what it tells is known. -/
theorem apply_to {v r : Ver} {e : Edi} {c : Int} (n : Nat) (hap : applyW v e = (r, c)) (hn : r.levels.length = n) (lv dv av : Value) (w : World) (h : Rw (rowK filK) Any w lv v.levels) (hw : v.wf) (hfew : cntTo v.levels v.levels.length ≤ 1000000) (he : EdiAt Any w e dv av) (hd : e.drops.length ≤ 1000) (ha : e.adds.length ≤ 1000) (hk : ∀ a ∈ e.adds, a.2.least.length ≤ 100000000 ∧ a.2.most.length ≤ 100000000) :
    Calls Try.prog 28 #[.agg (verCells v lv).toArray, .agg (ediCells e dv av).toArray] w fun x w' => ∃ a cc, x = .returned (.tuple #[.agg #[.slice a n cc, .int .u64 r.next, .int .u64 r.seq, .int .u64 r.log], .int .i64 c]) ∧ Rw (rowK filK) (fun k => w.heap.size ≤ k) w' (.slice a n cc) r.levels ∧ Below w.heap.size w w' := by
  refine (apply_any Any Any v e lv dv av w h hw hfew he (Nat.le_trans hd (by decide)) (Nat.le_trans ha (by decide)) hk).mono fun x w' ⟨l, h1, h2, h3⟩ => ?_
  rw [hap] at h1 h2
  obtain ⟨a, cc, rfl⟩ := h2.isSlice
  simp only [hn] at h1 h2
  exact ⟨a, cc, h1, h2, h3⟩
theorem adds1 {next : Int} {f : Fil} (h1 : f.least.length ≤ 100000000) (h2 : f.most.length ≤ 100000000) : ∀ a ∈ (addE next f).adds, a.2.least.length ≤ 100000000 ∧ a.2.most.length ≤ 100000000 := fun a ha => by
  have : a = (1, f) := by simpa [addE] using ha
  rw [this]
  exact ⟨h1, h2⟩
/-- The error that is told, and nothing that was there has changed. -/
def LvErr (w0 : World) (c : Int) (x : Value) (w : World) : Prop := x = .int .i64 c ∧ Below w0.heap.size w0 w
/-- And a version that is told, in a block. -/
def LvVer (w0 : World) (v : Ver) (c : Int) (p x : Value) (w : World) : Prop :=
  x = .int .i64 c ∧ ∃ b a cc, p = .pointer (some ⟨b, 0, none⟩) ∧ Blk w b #[.slice a 5 cc, .int .u64 v.next, .int .u64 v.seq, .int .u64 v.log] 25 ∧ Rw (rowK filK) Any w (.slice a 5 cc) v.levels ∧ Below w0.heap.size w0 w
theorem conv_const2 (w : World) (o : Obj) (C : Array Value) (n c : Nat) : (convert 34 34 (.slice (some ⟨w.heap.size + 1, 0, none⟩) n c)).run Try.prog ((w.alloc o).alloc (.cells C 5)) = .ok (.slice (some ⟨w.heap.size + 1, 0, none⟩) n c) ((w.alloc o).alloc (.cells C 5 (C.size, C.size + 1))) := by
  have h := conv_const (w.alloc o) C n c
  rw [size_one] at h
  exact h
theorem lvVer_set {w0 w : World} {v : Ver} {c : Int} {ob s cc : Nat} {a : Option Addr} (hz : Blk w ob zero4 25) (hr : Rw (rowK filK) (fun k => s ≤ k) w (.slice a 5 cc) v.levels) (hlt : ob < s) (hb : Below w0.heap.size w0 w) (ho : w0.heap.size ≤ ob) :
    LvVer w0 v c (.pointer (some ⟨ob, 0, none⟩)) (.int .i64 c) ((((w.setCell ⟨ob, 0, none⟩ (.slice a 5 cc)).setCell ⟨ob, 1, none⟩ (.int .u64 v.next)).setCell ⟨ob, 2, none⟩ (.int .u64 v.seq)).setCell ⟨ob, 3, none⟩ (.int .u64 v.log)) := by
  have hw : Wrote (fun k => k = ob) w ((((w.setCell ⟨ob, 0, none⟩ (.slice a 5 cc)).setCell ⟨ob, 1, none⟩ (.int .u64 v.next)).setCell ⟨ob, 2, none⟩ (.int .u64 v.seq)).setCell ⟨ob, 3, none⟩ (.int .u64 v.log)) :=
    Wrote.setCell (S := fun k => k = ob) (Wrote.setCell (S := fun k => k = ob) (Wrote.setCell (S := fun k => k = ob) (Wrote.setCell (S := fun k => k = ob) (Wrote.of_below (Below.refl _ _)) _ _ (.inl rfl)) _ _ (.inl rfl)) _ _ (.inl rfl)) _ _ (.inl rfl)
  exact ⟨rfl, ob, a, cc, rfl, (((hz.set 0 _).set 1 _).set 2 _).set 3 _, (hr.keep fun k hk hF => hw.block k hk (by omega)).any, below_set4 hb ho⟩
end Go.Proofs.Ytkcohhldmhdcfaa
