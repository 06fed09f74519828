/- compact: sameKey, group; the document's same. compact: check. slices.Clone of entries and of numbers. compact: who looks, which entries are seen: plain. -/
import Derived.Test.YtmpapipobjoboaaMgNames
import Derived.Test.YtmpapipobjoboaaMgDeal
namespace Go.Proofs.Ytmpapipobjoboaa
open Go.RowKit

set_option maxRecDepth 100000 in
theorem samekey_any (F G : Nat → Prop) (a b : Ent) (ka va kb vb : Value) (w : World) (ha : Bytes F w ka a.key) (hb : Bytes G w kb b.key) :
    Calls Try.prog 49 #[.agg (entCells a ka va).toArray, .agg (entCells b kb vb).toArray] w fun e w' => e = .returned (.bool (decide (a.key = b.key))) ∧ Below w.heap.size w w' := by
  obtain ⟨aa, ca, rfl⟩ := ha.isSlice
  obtain ⟨ab, cb, rfl⟩ := hb.isSlice
  have HS := Lib.hid ha
  have HT := Lib.hid hb
  clear ha hb
  unfold entCells
  go_enter Try.func49, Try.ntmps49
  go_upto_region 1 with fail
  refine wp_gen fun w1 hw1 => ?_
  have HW1 : Hid (Below w.heap.size w w1) := by rw [hw1]; exact ((Below.refl _ _).alloc (Nat.le_refl _) _).alloc (by simp) _
  have HA1 : Hid (Blk w1 w.heap.size (entCells a (.slice aa a.key.length ca) va).toArray 29) := by rw [hw1]; exact (Blk.at_new rfl rfl).alloc _
  have HB1 : Hid (Blk w1 (w.heap.size + 1) (entCells b (.slice ab b.key.length cb) vb).toArray 29) := by rw [hw1]; exact Blk.at_new (by simp) rfl
  clear hw1
  have HS1 : Hid (Bytes F w1 (.slice aa a.key.length ca) a.key) := HS.out.below HW1.out
  have HT1 : Hid (Bytes G w1 (.slice ab b.key.length cb) b.key) := HT.out.below HW1.out
  have c0 : w1.cell? ⟨w.heap.size, 0, none⟩ = some (.slice aa a.key.length ca) := HA1.out.cell rfl
  have c1 : w1.cell? ⟨w.heap.size + 1, 0, none⟩ = some (.slice ab b.key.length cb) := HB1.out.cell rfl
  clear HA1 HB1 HS HT
  go_wp2_with fail
  refine Calls.mono (equal_any F G _ _ a.key b.key w1 HS1.out HT1.out) ?_
  rintro _ w2 ⟨rfl, hn⟩
  have HW2 : Hid (Below w.heap.size w w2) := HW1.out.trans ((below_drewN hn).mono HW1.out.size)
  obtain ⟨b0, hb0⟩ : ∃ b0, decide (a.key = b.key) = b0 := ⟨_, rfl⟩
  rw [hb0]
  have HD : Hid (b0 = decide (a.key = b.key)) := hb0.symm
  clear hn hb0
  go_wp2_with fail
  go_ret
  exact ⟨ret_bool HD.out, HW2.out⟩

set_option maxRecDepth 100000 in
theorem rsame15_any (F G : Nat → Prop) (a b : Ent) (ka va kb vb : Value) (w : World) (ha : Bytes F w ka a.key) (hb : Bytes G w kb b.key) :
    Calls Try.prog 71 #[.agg (entCells a ka va).toArray, .agg (entCells b kb vb).toArray] w fun e w' => e = .returned (.bool (decide (a.key = b.key))) ∧ Below w.heap.size w w' := by
  obtain ⟨aa, ca, rfl⟩ := ha.isSlice
  obtain ⟨ab, cb, rfl⟩ := hb.isSlice
  have HS := Lib.hid ha
  have HT := Lib.hid hb
  clear ha hb
  have HR := Lib.hid (same_key a.key b.key)
  unfold entCells
  go_enter Try.func71, Try.ntmps71
  go_upto_region 1 with fail
  refine wp_gen fun w1 hw1 => ?_
  have HW1 : Hid (Below w.heap.size w w1) := by rw [hw1]; exact ((Below.refl _ _).alloc (Nat.le_refl _) _).alloc (by simp) _
  have HA1 : Hid (Blk w1 w.heap.size (entCells a (.slice aa a.key.length ca) va).toArray 29) := by rw [hw1]; exact (Blk.at_new rfl rfl).alloc _
  have HB1 : Hid (Blk w1 (w.heap.size + 1) (entCells b (.slice ab b.key.length cb) vb).toArray 29) := by rw [hw1]; exact Blk.at_new (by simp) rfl
  clear hw1
  have HS1 : Hid (Bytes F w1 (.slice aa a.key.length ca) a.key) := HS.out.below HW1.out
  have HT1 : Hid (Bytes G w1 (.slice ab b.key.length cb) b.key) := HT.out.below HW1.out
  have c0 : w1.cell? ⟨w.heap.size, 0, none⟩ = some (.slice aa a.key.length ca) := HA1.out.cell rfl
  have c1 : w1.cell? ⟨w.heap.size + 1, 0, none⟩ = some (.slice ab b.key.length cb) := HB1.out.cell rfl
  have HZ1 : Hid (w.heap.size + 1 < w1.heap.size) := HB1.out.lt
  have HC0 : Hid (w1.cell? ⟨w.heap.size, 0, none⟩ = some (.slice aa a.key.length ca)) := c0
  have HC1 : Hid (w1.cell? ⟨w.heap.size + 1, 0, none⟩ = some (.slice ab b.key.length cb)) := c1
  clear HA1 HB1 HS HT
  go_wp2_with fail
  refine Calls.mono (rbefore_any _ _ _ a.key _ b.key w1 HS1.out HT1.out) ?_
  rintro _ w2 ⟨rfl, hn⟩
  have HB2 := Lib.hid (below_drewN hn)
  have HW2 : Hid (Below w.heap.size w w2) := HW1.out.trans (HB2.out.mono HW1.out.size)
  clear hn c0 c1
  cases h1 : Op.bytesLess a.key b.key with
  | true =>
    have HD : Hid (false = decide (a.key = b.key)) := by show _ = _; rw [← HR.out, h1]; rfl
    go_wp2_with fail
    go_ret
    exact ⟨ret_bool HD.out, HW2.out⟩
  | false =>
    have HD : Hid ((!Op.bytesLess b.key a.key) = decide (a.key = b.key)) := by show _ = _; rw [← HR.out, h1]; rfl
    have c0 : w2.cell? ⟨w.heap.size, 0, none⟩ = some (.slice aa a.key.length ca) := (HB2.out.cell (p := ⟨w.heap.size, 0, none⟩) (Nat.lt_of_succ_lt HZ1.out)).trans HC0.out
    have c1 : w2.cell? ⟨w.heap.size + 1, 0, none⟩ = some (.slice ab b.key.length cb) := (HB2.out.cell (p := ⟨w.heap.size + 1, 0, none⟩) HZ1.out).trans HC1.out
    go_wp2_with fail
    refine Calls.mono (rbefore_any _ _ _ b.key _ a.key w2 (HT1.out.below HB2.out) (HS1.out.below HB2.out)) ?_
    rintro _ w3 ⟨rfl, hn⟩
    have HW3 : Hid (Below w.heap.size w w3) := HW2.out.trans ((below_drewN hn).mono HW2.out.size)
    clear hn c0 c1
    generalize Op.bytesLess b.key a.key = r at *
    go_wp2_with fail
    go_ret
    exact ⟨ret_bool HD.out, HW3.out⟩

theorem samekey_at (F G : Nat → Prop) (a b : Ent) (r : Bool) (hr : decide (a.key = b.key) = r) (ka va kb vb : Value) (w : World) (ha : Bytes F w ka a.key) (hb : Bytes G w kb b.key) :
    Calls Try.prog 49 #[.agg (entCells a ka va).toArray, .agg (entCells b kb vb).toArray] w fun e w' => e = .returned (.bool r) ∧ Below w.heap.size w w' := by
  subst hr; exact samekey_any F G a b ka va kb vb w ha hb
theorem rsame15_at (F G : Nat → Prop) (a b : Ent) (r : Bool) (hr : decide (a.key = b.key) = r) (ka va kb vb : Value) (w : World) (ha : Bytes F w ka a.key) (hb : Bytes G w kb b.key) :
    Calls Try.prog 71 #[.agg (entCells a ka va).toArray, .agg (entCells b kb vb).toArray] w fun e w' => e = .returned (.bool r) ∧ Below w.heap.size w w' := by
  subst hr; exact rsame15_any F G a b ka va kb vb w ha hb

/-- Where the entries of the first one's key end. -/
structure Grp (l : List Ent) (n : Nat) : Prop where
  pos : 1 ≤ n
  le : n ≤ l.length
  same : ∀ j, j < n → (eat l j).key = (eat l 0).key
  last : n < l.length → (eat l n).key ≠ (eat l 0).key

set_option maxRecDepth 100000 in
set_option maxHeartbeats 2000000 in
theorem group_any (F : Nat → Prop) (v : Value) (l : List Ent) (w : World) (h : Rw entK F w v l) (h0 : 0 < l.length) (hfew : l.length ≤ 1000000) :
    Calls Try.prog 53 #[v] w fun x w' => ∃ n : Nat, Grp l n ∧ x = .returned (.int .i64 (n : Int)) ∧ Below w.heap.size w w' := by
  obtain ⟨xa, ca, rfl⟩ := h.isSlice
  have HA := Lib.hid h
  clear h
  obtain ⟨n, hn⟩ : ∃ n, l.length = n := ⟨_, rfl⟩
  have HN := Lib.hid hn
  rw [hn] at HA hfew h0
  rw [hn]
  clear hn
  go_enter Try.func53, Try.ntmps53
  go_wp2_with fail
  go_loopw [3] (fun iv wr => ∃ (j : Nat), iv = .int .i64 (j : Int) ∧ 1 ≤ j ∧ j ≤ n ∧ Hid (∀ i, i < j → (eat l i).key = (eat l 0).key) ∧ Hid (Below w.heap.size w wr)) (fun iv _ => n - (intOf iv).toNat)
  case atStart => exact ⟨1, rfl, Nat.le_refl _, h0, (fun i hi => by rw [show i = 0 by omega]), Below.refl _ _⟩
  case round =>
    obtain ⟨j, rfl, hj1, hj, HS, HB⟩ := hrel
    by_cases hlt : j < n
    · have t1 : (j : Int) < (n : Int) := by omega
      have t2 : (0 : Int) < (n : Int) := by omega
      have t3 : 0 ≤ (j : Int) := by omega
      have hl1 : 0 < l.length := by rw [HN.out]; omega
      have hl2 : j < l.length := by rw [HN.out]; omega
      obtain ⟨ba, oa, capa, ea, _, hba, hca⟩ := ents_at (HA.out.below HB.out) (by omega)
      obtain ⟨k1, v1, hk1, hv1, hc1⟩ := hca 0 hl1
      obtain ⟨k2, v2, hk2, hv2, hc2⟩ := hca j hl2
      injection ea with e1 e2 e3
      subst e1 e3
      clear e2
      rw [eat_eq hl1] at hk1 hv1 hc1
      rw [eat_eq hl2] at hk2 hv2 hc2
      rw [Nat.zero_mul, Nat.add_zero] at hc1
      obtain ⟨k1a, k1c, rfl⟩ := hk1.isSlice
      obtain ⟨v1a, v1c, rfl⟩ := hv1.isSlice
      obtain ⟨k2a, k2c, rfl⟩ := hk2.isSlice
      obtain ⟨v2a, v2c, rfl⟩ := hv2.isSlice
      have HK1 := Lib.hid (hk1.below (below_drew (Below.refl _ _)))
      have HK2 := Lib.hid (hk2.below (below_drew (Below.refl _ _)))
      have HC1 : Hid (C4o ba oa (eat l 0) (.slice k1a (eat l 0).key.length k1c) (.slice v1a (eat l 0).value.length v1c) wr.drew) := hc1
      have HC2 : Hid (C4o ba (oa + j * 4) (eat l j) (.slice k2a (eat l j).key.length k2c) (.slice v2a (eat l j).value.length v2c) wr.drew) := hc2
      have HZ1 : Hid (ba < wr.drew.heap.size) := hba
      obtain ⟨c, hcc⟩ : ∃ c, decide ((eat l 0).key = (eat l j).key) = c := ⟨_, rfl⟩
      have HC := Lib.hid hcc
      have HCC := Lib.hid hcc
      clear hca hk1 hv1 hk2 hv2 hc1 hc2 hba hcc hl1 hl2
      obtain ⟨s, hs⟩ : ∃ s, eat l 0 = s := ⟨_, rfl⟩
      obtain ⟨t, ht⟩ : ∃ t, eat l j = t := ⟨_, rfl⟩
      rw [hs, ht] at HC
      rw [hs] at HK1 HC1
      rw [ht] at HK2 HC2
      clear hs ht
      go_wp2_with fail
      go_region_held3 (fun w' => (w'.cell? ⟨ba, oa, none⟩ = some (.slice k1a s.key.length k1c) ∧ w'.cell? ⟨ba, oa + 1, none⟩ = some (.int .u64 s.seq) ∧ w'.cell? ⟨ba, oa + 2, none⟩ = some (.int .i64 s.kind) ∧ w'.cell? ⟨ba, oa + 3, none⟩ = some (.slice v1a s.value.length v1c)) ∧ (w'.cell? ⟨ba, oa + j * 4, none⟩ = some (.slice k2a t.key.length k2c) ∧ w'.cell? ⟨ba, oa + j * 4 + 1, none⟩ = some (.int .u64 t.seq) ∧ w'.cell? ⟨ba, oa + j * 4 + 2, none⟩ = some (.int .i64 t.kind) ∧ w'.cell? ⟨ba, oa + j * 4 + 3, none⟩ = some (.slice v2a t.value.length v2c)))
        (first | exact ⟨HC1.out, HC2.out⟩ | exact ⟨HC1.out.keep hbx1 HZ1.out, HC2.out.keep hbx1 HZ1.out⟩)
        (first | (go_at_call 49; refine Calls.mono (samekey_at _ _ s t c HC.out (.slice k1a s.key.length k1c) (.slice v1a s.value.length v1c) (.slice k2a t.key.length k2c) (.slice v2a t.value.length v2c) _ HK1.out HK2.out) ?_; rintro e x1 ⟨rfl, hbx1⟩; skip))
      have HWx : Hid (Below w.heap.size w x1) := HB.out.trans ((below_of_drew hbx1).mono HB.out.size)
      clear hbx1 HC1 HC2 HK1 HK2
      cases c with
      | true =>
        go_wp2_with fail
        go_roundw
        · exact ⟨j + 1, by go_num, by omega, by omega, (fun i hi => by
            by_cases e : i = j
            · rw [e]; exact (of_decide_eq_true HCC.out).symm
            · exact HS.out i (by omega)), HWx.out⟩
        · simp only [intOf]; omega
      | false =>
        have HG : Hid (Grp l j) := ⟨hj1, by rw [HN.out]; exact hj, HS.out, fun _ e => of_decide_eq_false HCC.out e.symm⟩
        go_wp2_with fail
        go_ret
        exact ⟨j, HG.out, rfl, HWx.out⟩
    · have t1 : ¬ (j : Int) < (n : Int) := by omega
      have HG : Hid (Grp l j) := ⟨hj1, by rw [HN.out]; exact hj, HS.out, fun e => absurd e (by rw [HN.out]; omega)⟩
      go_wp2_with fail
      go_quiet (fail)
      all_goals
        go_wp2_with fail
        go_ret
        exact ⟨j, HG.out, rfl, below_dn HB.out _⟩
end Go.Proofs.Ytmpapipobjoboaa

namespace Go.Proofs.Ytmpapipobjoboaa
open Go.RowKit

/-- Numbers that look. -/
def unK : Kind Int where
  sz := 1
  R _ _ cs n := cs = [.int .u64 n]
  pos := by decide
  len := by rintro F w cs x rfl; rfl
  keep := by rintro F w w' cs x h _; exact h
  mono := by rintro F F' w cs x h _; exact h
  one := by rintro F w cs x rfl u hu; rw [List.mem_singleton.1 hu]; rfl
def uat (l : List Int) (i : Nat) : Int := l.getD i 0
theorem uat_eq {l : List Int} {i : Nat} (h : i < l.length) : l[i] = uat l i := by simp [uat, h]
theorem uns_at {F : Nat → Prop} {w : World} {v : Value} {ns : List Int} (h : Rw unK F w v ns) (hne : 0 < ns.length) :
    ∃ b off cap, v = .slice (some ⟨b, off, none⟩) ns.length cap ∧ F b ∧ b < w.heap.size ∧ ∀ i, i < ns.length → w.cell? ⟨b, off + i, none⟩ = some (.int .u64 (uat ns i)) := by
  obtain ⟨b, off, cap, e, hF, hb, _, _, hc⟩ := h.place hne
  refine ⟨b, off, cap, e, hF, hb, fun i hi => ?_⟩
  obtain ⟨es, rfl, hes⟩ := hc i hi
  have := hes 0 _ rfl
  rw [← uat_eq hi]
  rwa [show unK.sz = 1 from rfl, Nat.mul_one, Nat.add_zero] at this

def maxSeq : Int := 72057594037927935
/-- Do numbers rise, none above the greatest? -/
def UpTo (l : List Int) (k : Nat) : Prop := ∀ i, i < k → uat l i ≤ maxSeq ∧ (0 < i → uat l (i - 1) < uat l i)
open Classical in
noncomputable def upB (l : List Int) : Bool := decide (UpTo l l.length)
theorem upB_true {l : List Int} (h : UpTo l l.length) : upB l = true := by unfold upB; classical exact decide_eq_true h
theorem upB_false {l : List Int} {j : Nat} (h : j < l.length) (hc : ¬ (uat l j ≤ maxSeq ∧ (0 < j → uat l (j - 1) < uat l j))) : upB l = false := by unfold upB; classical exact decide_eq_false fun e => hc (e j h)
theorem upB_iff {l : List Int} : upB l = true ↔ UpTo l l.length := by unfold upB; simp
theorem UpTo.snoc {l : List Int} {k : Nat} (h : UpTo l k) (hc : uat l k ≤ maxSeq ∧ (0 < k → uat l (k - 1) < uat l k)) : UpTo l (k + 1) := fun i hi => by
  by_cases e : i = k
  · subst e; exact hc
  · exact h i (by omega)
noncomputable def chkV (l : List Ent) (looks : List Int) : Int := if rowB l = true ∧ upB looks = true then 0 else 2
theorem chkV_ok {l : List Ent} {looks : List Int} (h1 : rowB l = true) (h2 : upB looks = true) : chkV l looks = 0 := by unfold chkV; rw [if_pos ⟨h1, h2⟩]
theorem chkV_row {l : List Ent} (looks : List Int) (h : rowB l = false) : chkV l looks = 2 := by unfold chkV; rw [if_neg fun e => by rw [h] at e; cases e.1]
theorem chkV_up (l : List Ent) {looks : List Int} (h : upB looks = false) : chkV l looks = 2 := by unfold chkV; rw [if_neg fun e => by rw [h] at e; cases e.2]

theorem mcheck_at {r : Int} (F : Nat → Prop) (v : Value) (l : List Ent) (w : World) (h : Rw entK F w v l) (hfew : l.length ≤ 1000000) (hr : chkE l = r) :
    Calls Try.prog 27 #[v] w fun x w' => x = .returned (.int .i64 r) ∧ Below w.heap.size w w' := by
  subst hr; exact mcheck_any F v l w h hfew

set_option maxRecDepth 100000 in
set_option maxHeartbeats 2000000 in
theorem ccheck_any (F G : Nat → Prop) (v vk : Value) (l : List Ent) (looks : List Int) (w : World) (h : Rw entK F w v l) (hk : Rw unK G w vk looks) (hfew : l.length ≤ 1000000) (hml : looks.length ≤ 1000000) :
    Calls Try.prog 51 #[v, vk] w fun x w' => x = .returned (.int .i64 (chkV l looks)) ∧ Below w.heap.size w w' := by
  obtain ⟨xa, ca, rfl⟩ := h.isSlice
  obtain ⟨ka, kc, rfl⟩ := hk.isSlice
  have HA := Lib.hid h
  have HK := Lib.hid hk
  have HCA := Lib.hid (fun r hr => mcheck_at F _ l w h hfew (r := r) hr)
  clear h hk hfew
  obtain ⟨n, hn⟩ : ∃ n, l.length = n := ⟨_, rfl⟩
  obtain ⟨m, hm⟩ : ∃ m, looks.length = m := ⟨_, rfl⟩
  have HM := Lib.hid hm
  rw [hn] at HA HCA
  rw [hm] at HK hml
  rw [hn, hm]
  clear hn hm HA
  go_enter Try.func51, Try.ntmps51
  go_wp2_with fail
  cases hrb : rowB l with
  | false =>
    refine Calls.mono (HCA.out 2 (by unfold chkE; rw [hrb]; rfl)) ?_
    rintro _ w1 ⟨rfl, hb⟩
    have HW := Lib.hid hb
    have HR := Lib.hid (chkV_row looks hrb)
    clear hb hrb
    go_wp2_with fail
    go_ret
    exact ⟨ret_int HR.out.symm, HW.out⟩
  | true =>
    refine Calls.mono (HCA.out 0 (by unfold chkE; rw [hrb]; rfl)) ?_
    rintro _ w1 ⟨rfl, hb⟩
    have HW := Lib.hid hb
    have HRB := Lib.hid hrb
    clear hb hrb HCA
    go_wp2_with fail
    go_loopw [15] (fun iv wr => ∃ (j : Nat), iv = .int .i64 (j : Int) ∧ j ≤ m ∧ Hid (UpTo looks j) ∧ Hid (Below w.heap.size w wr)) (fun iv _ => m - (intOf iv).toNat)
    case atStart => exact ⟨0, rfl, by omega, (fun i hi => by omega), HW.out⟩
    case round =>
      obtain ⟨j, rfl, hj, HU, HB⟩ := hrel
      clear HW
      by_cases hlt : j < m
      · have t1 : (j : Int) < (m : Int) := by omega
        have t3 : 0 ≤ (j : Int) := by omega
        obtain ⟨ba, oa, capa, ea, _, _, hca⟩ := uns_at (HK.out.below HB.out) (by rw [HM.out]; omega)
        injection ea with e1 e2 e3
        subst e1 e3
        clear e2
        have c0 := hca j (by rw [HM.out]; exact hlt)
        have HJ : Hid (j < looks.length) := by show _ < _; rw [HM.out]; exact hlt
        obtain ⟨x, hx⟩ : ∃ x, uat looks j = x := ⟨_, rfl⟩
        have HX := Lib.hid hx
        rw [hx] at c0
        clear hx
        by_cases hmx : 72057594037927935 < x
        · have HF : Hid (upB looks = false) := upB_false HJ.out fun h => by rw [HX.out] at h; unfold maxSeq at h; omega
          clear hca
          go_wp2_with fail
          go_ret
          exact ⟨ret_int (chkV_up l HF.out).symm, HB.out⟩
        · cases j with
          | zero =>
            have HU1 : Hid (UpTo looks 1) := HU.out.snoc ⟨by rw [HX.out]; unfold maxSeq; omega, fun h => by omega⟩
            clear hca
            rw [Nat.add_zero] at c0
            go_wp2_with fail
            go_roundw
            · exact ⟨1, by go_num, by omega, HU1.out, HB.out⟩
            · simp only [intOf]; omega
          | succ j =>
            have c1 := hca j (by rw [HM.out]; omega)
            obtain ⟨y, hy⟩ : ∃ y, uat looks j = y := ⟨_, rfl⟩
            have HY := Lib.hid hy
            rw [hy] at c1
            clear hy hca
            have t4 : IntKind.i64.wrap ((j : Int) + 1 - 1) = (j : Int) := by rw [wrap_small (by omega) (by omega)]; omega
            have t5 : IntKind.i64.wrap (j : Int) = (j : Int) := wrap_small (by omega) (by omega)
            have t6 : ((j : Int) + 1).toNat = j + 1 := by omega
            have t7 : (j : Int) < (m : Int) := by omega
            have t8 : 0 ≤ (j : Int) := by omega
            have t9 : 0 < (j : Int) + 1 := by omega
            by_cases hxy : x ≤ y
            · have HF : Hid (upB looks = false) := upB_false HJ.out fun h => by
                have h1 := h.2 (Nat.succ_pos j)
                rw [Nat.add_sub_cancel, HX.out, HY.out] at h1
                omega
              go_wp2_with fail
              go_ret
              exact ⟨ret_int (chkV_up l HF.out).symm, HB.out⟩
            · have HU1 : Hid (UpTo looks (j + 1 + 1)) := HU.out.snoc ⟨by rw [HX.out]; unfold maxSeq; omega, fun _ => by rw [Nat.add_sub_cancel, HX.out, HY.out]; omega⟩
              go_wp2_with fail
              go_roundw
              · exact ⟨j + 1 + 1, by go_num, by omega, HU1.out, HB.out⟩
              · simp only [intOf]; omega
      · have t1 : ¬ (j : Int) < (m : Int) := by omega
        have HF : Hid (chkV l looks = 0) := chkV_ok HRB.out (upB_true (by rw [HM.out, show m = j by omega]; exact HU.out))
        go_wp2_with fail
        go_ret
        exact ⟨ret_int HF.out.symm, HB.out⟩
end Go.Proofs.Ytmpapipobjoboaa

namespace Go.Proofs.Ytmpapipobjoboaa
open Go.RowKit

theorem info_un : (Try.prog.info? 27).map (fun i => (i.zero, i.size, i.bytes)) = some (some (.int .u64 0), unK.sz, 8) := by kernel_rfl

set_option maxRecDepth 100000 in
set_option maxHeartbeats 1000000 in
theorem clone_uns (F : Nat → Prop) (v : Value) (xs : List Int) (w : World) (h : Rw unK F w v xs) (hl : xs.length ≤ 1000000) :
    Calls Try.prog 52 #[v] w fun e w' => ∃ v', e = .returned v' ∧ ROwnF unK (fun k => F k ∧ k < w.heap.size) w.heap.size 27 w' v' xs ∧ Below w.heap.size w w' := by
  obtain ⟨cs, hsl, hel⟩ := h
  obtain ⟨a, cap, rfl, e2, e3, e4, e5, e6⟩ := Sl.ex hsl
  have hnil := fun w => Lib.run_eql_slice_nil (P := Try.prog) w 35 27 a xs.length cap 0 0 Try.underlying35
  cases a with
  | none =>
    have hc := e4 rfl
    subst hc
    have hb : xs = [] := List.eq_nil_of_length_eq_zero (by omega)
    subst hb
    clear hsl hel e2 e3 e4 e5 e6 hl
    simp only [List.length_nil] at hnil ⊢
    go_enter Try.func52, Try.ntmps52
    go_wp2_with fail
    go_ret
    exact ⟨_, rfl, ROwnF.nil _ _ _ _ _, Below.refl _ _⟩
  | some ad =>
    have HS := Lib.hid hsl
    have HE := Lib.hid hel
    clear hsl hel e2 e3 e4 e5 e6
    go_enter Try.func52, Try.ntmps52
    go_wp2_with (with_reducible refine pause_append ?_)
    refine list_gen fun w1 hw1 => ?_
    have HB1 : Hid (Below w.heap.size w w1) := by rw [hw1]; exact (Below.refl _ _).alloc (Nat.le_refl _) _
    have HO1 : Hid (ROwnF unK (fun k => F k ∧ k < w.heap.size) w.heap.size 27 w1 (.slice (some ⟨w.heap.size, 0, none⟩) 0 0) []) := by rw [hw1]; exact ROwnF.lit_at _ _ _ rfl
    clear hw1
    refine Pause.go (wpList_append_elsF (K := unK) 35 27 _ 8 Try.underlying35 info_un rfl (fun k => F k ∧ k < w.heap.size) w.heap.size _ [] _ xs rfl _ _ rfl rfl rfl HO1.out cs _ (HS.out.below HB1.out)
      (((HE.out.mono (F' := fun k => (F k ∧ k < w.heap.size) ∧ (Value.slice (some ⟨w.heap.size, 0, none⟩) 0 0).ownBlock ≠ some k) fun k hk hF => ⟨⟨hF, hk⟩, fun e => by have e' : w.heap.size = k := Option.some.inj e; omega⟩).keep fun k hk _ => HB1.out.block k hk))
      (by simpa using hl) (by decide) HB1.out.size ?_)
    intro v2 w2 ho hg
    have HO2 : Hid (ROwnF unK (fun k => F k ∧ k < w.heap.size) w.heap.size 27 w2 v2 xs) := ho
    have HB2 : Hid (Below w.heap.size w w2) := HB1.out.trans (hg.below HB1.out.size fun k e => (HO1.out.lt k e).1)
    clear ho hg HO1 HB1
    obtain ⟨a2, c2, rfl⟩ := HO2.out.isSlice
    go_wp2_with fail
    go_ret
    exact ⟨_, rfl, HO2.out, HB2.out⟩

set_option maxRecDepth 100000 in
set_option maxHeartbeats 1000000 in
theorem clone_ents (F : Nat → Prop) (v : Value) (xs : List Ent) (w : World) (h : Rw entK F w v xs) (hl : xs.length ≤ 1000000) :
    Calls Try.prog 68 #[v] w fun e w' => ∃ v', e = .returned v' ∧ ROwnF entK (fun k => F k ∧ k < w.heap.size) w.heap.size 29 w' v' xs ∧ Below w.heap.size w w' := by
  obtain ⟨cs, hsl, hel⟩ := h
  obtain ⟨a, cap, rfl, e2, e3, e4, e5, e6⟩ := Sl.ex hsl
  have hnil := fun w => Lib.run_eql_slice_nil (P := Try.prog) w 31 29 a xs.length cap 0 0 Try.underlying31
  cases a with
  | none =>
    have hc := e4 rfl
    subst hc
    have hb : xs = [] := List.eq_nil_of_length_eq_zero (by omega)
    subst hb
    clear hsl hel e2 e3 e4 e5 e6 hl
    simp only [List.length_nil] at hnil ⊢
    go_enter Try.func68, Try.ntmps68
    go_wp2_with fail
    go_ret
    exact ⟨_, rfl, ROwnF.nil _ _ _ _ _, Below.refl _ _⟩
  | some ad =>
    have HS := Lib.hid hsl
    have HE := Lib.hid hel
    clear hsl hel e2 e3 e4 e5 e6
    go_enter Try.func68, Try.ntmps68
    go_wp2_with (with_reducible refine pause_append ?_)
    refine list_gen fun w1 hw1 => ?_
    have HB1 : Hid (Below w.heap.size w w1) := by rw [hw1]; exact (Below.refl _ _).alloc (Nat.le_refl _) _
    have HO1 : Hid (ROwnF entK (fun k => F k ∧ k < w.heap.size) w.heap.size 29 w1 (.slice (some ⟨w.heap.size, 0, none⟩) 0 0) []) := by rw [hw1]; exact ROwnF.lit_at _ _ _ rfl
    clear hw1
    refine Pause.go (wpList_append_elsF (K := entK) 31 29 _ 64 Try.underlying31 info_entO rfl (fun k => F k ∧ k < w.heap.size) w.heap.size _ [] _ xs rfl _ _ rfl rfl rfl HO1.out cs _ (HS.out.below HB1.out)
      (((HE.out.mono (F' := fun k => (F k ∧ k < w.heap.size) ∧ (Value.slice (some ⟨w.heap.size, 0, none⟩) 0 0).ownBlock ≠ some k) fun k hk hF => ⟨⟨hF, hk⟩, fun e => by have e' : w.heap.size = k := Option.some.inj e; omega⟩).keep fun k hk _ => HB1.out.block k hk))
      (by simpa using hl) (by decide) HB1.out.size ?_)
    intro v2 w2 ho hg
    have HO2 : Hid (ROwnF entK (fun k => F k ∧ k < w.heap.size) w.heap.size 29 w2 v2 xs) := ho
    have HB2 : Hid (Below w.heap.size w w2) := HB1.out.trans (hg.below HB1.out.size fun k e => (HO1.out.lt k e).1)
    clear ho hg HO1 HB1
    obtain ⟨a2, c2, rfl⟩ := HO2.out.isSlice
    go_wp2_with fail
    go_ret
    exact ⟨_, rfl, HO2.out, HB2.out⟩
end Go.Proofs.Ytmpapipobjoboaa

namespace Go.Proofs.Ytmpapipobjoboaa
open Go.RowKit

/-- Is an entry seen by one of those who look? -/
def VisP (W : List Int) (l : List Ent) (i : Nat) : Prop := ∃ a ∈ W, (eat l i).seq ≤ a ∧ ¬ (0 < i ∧ (eat l (i - 1)).key = (eat l i).key ∧ (eat l (i - 1)).seq ≤ a)
open Classical in
noncomputable def visB (looks : List Int) (l : List Ent) (i : Nat) : Bool := decide (VisP (looks ++ [maxSeq]) l i)
theorem visB_iff {looks : List Int} {l : List Ent} {i : Nat} : visB looks l i = true ↔ VisP (looks ++ [maxSeq]) l i := by unfold visB; simp

/-- Those who look, the greatest among them. -/
structure Who (looks W : List Int) : Prop where
  up : UpTo W W.length
  mem : ∀ a, a ∈ W ↔ a ∈ looks ++ [maxSeq]
  len : W.length ≤ looks.length + 1

theorem mem_uat {l : List Int} {a : Int} : a ∈ l ↔ ∃ k, k < l.length ∧ uat l k = a := by
  rw [List.mem_iff_getElem]
  constructor
  · rintro ⟨k, hk, rfl⟩; exact ⟨k, hk, (uat_eq hk).symm⟩
  · rintro ⟨k, hk, rfl⟩; exact ⟨k, hk, uat_eq hk⟩
theorem Who.same {looks : List Int} (h : UpTo looks looks.length) (h0 : 0 < looks.length) (hl : uat looks (looks.length - 1) = maxSeq) : Who looks looks := by
  refine ⟨h, fun a => ?_, Nat.le_succ _⟩
  rw [List.mem_append, List.mem_singleton]
  refine ⟨.inl, fun h1 => h1.elim id fun h1 => ?_⟩
  subst h1
  exact mem_uat.2 ⟨looks.length - 1, by omega, hl⟩
theorem Who.more {looks : List Int} (h : UpTo looks looks.length) (hl : looks.length = 0 ∨ uat looks (looks.length - 1) ≠ maxSeq) : Who looks (looks ++ [maxSeq]) := by
  refine ⟨fun i hi => ?_, fun a => Iff.rfl, by simp⟩
  have hlt : ∀ j, j < looks.length → uat (looks ++ [maxSeq]) j = uat looks j := fun j hj => by simp [uat, List.getD, List.getElem?_append_left hj]
  rw [List.length_append, List.length_singleton] at hi
  by_cases e : i = looks.length
  · subst e
    have h1 : uat (looks ++ [maxSeq]) looks.length = maxSeq := by simp [uat]
    rw [h1]
    refine ⟨Int.le_refl _, fun h0 => ?_⟩
    rw [hlt _ (by omega)]
    have h2 := (h (looks.length - 1) (by omega)).1
    rcases hl with hl | hl
    · omega
    · omega
  · rw [hlt i (by omega)]
    refine ⟨(h i (by omega)).1, fun h0 => ?_⟩
    rw [hlt _ (by omega)]
    exact (h i (by omega)).2 h0
theorem Who.vis {looks W : List Int} (h : Who looks W) (l : List Ent) (i : Nat) : VisP W l i ↔ VisP (looks ++ [maxSeq]) l i := by
  unfold VisP
  constructor
  · rintro ⟨a, ha, h1⟩; exact ⟨a, (h.mem a).1 ha, h1⟩
  · rintro ⟨a, ha, h1⟩; exact ⟨a, (h.mem a).2 ha, h1⟩
theorem UpTo.mono {W : List Int} (h : UpTo W W.length) : ∀ {k k' : Nat}, k ≤ k' → k' < W.length → uat W k ≤ uat W k' := by
  intro k k' hk
  induction hk with
  | refl => intro _; exact Int.le_refl _
  | step hk ih =>
    intro h1
    have h2 := ih (by omega)
    have h3 := (h _ h1).2 (Nat.succ_pos _)
    rw [show ∀ n : Nat, n.succ - 1 = n from fun n => rfl] at h3
    omega

/-- Where a key's entries lie: from at on, ahead of e. -/
structure Part (l : List Ent) (at_ e : Nat) : Prop where
  lt : at_ < e
  le : e ≤ l.length
  same : ∀ j, at_ ≤ j → j < e → (eat l j).key = (eat l at_).key
  ahead : 0 < at_ → (eat l (at_ - 1)).key ≠ (eat l at_).key
  behind : e < l.length → (eat l e).key ≠ (eat l at_).key
/-- Do no key's entries lie on both sides? -/
def Edge (l : List Ent) (at_ : Nat) : Prop := at_ ≤ l.length ∧ (0 < at_ → at_ < l.length → (eat l (at_ - 1)).key ≠ (eat l at_).key)
theorem eat_drop_at {l : List Ent} {a j : Nat} : eat (l.drop a) j = eat l (a + j) := by simp [eat, List.getD]
theorem Part.of {l : List Ent} {a g : Nat} (he : Edge l a) (ha : a < l.length) (hg : Grp (l.drop a) g) : Part l a (a + g) := by
  have h2 := hg.le
  rw [List.length_drop] at h2
  have h1 := hg.pos
  refine ⟨by omega, by omega, fun j hj1 hj2 => ?_, fun h0 => he.2 h0 ha, fun h3 => ?_⟩
  · have := hg.same (j - a) (by omega)
    rw [eat_drop_at, eat_drop_at, Nat.add_zero, show a + (j - a) = j by omega] at this
    exact this
  · have := hg.last (by rw [List.length_drop]; omega)
    rw [eat_drop_at, eat_drop_at, Nat.add_zero] at this
    exact this
theorem Part.edge {l : List Ent} {a e : Nat} (h : Part l a e) : Edge l e := ⟨h.le, fun _ h1 h2 => h.behind h1 (by rw [← h2]; exact h.same _ (by have := h.lt; omega) (by have := h.lt; omega))⟩
theorem Part.fall {l : List Ent} {a e : Nat} (hs : Sorted l) (h : Part l a e) {i j : Nat} (h1 : a ≤ i) (h2 : i < j) (h3 : j < e) : (eat l j).seq < (eat l i).seq := by
  have h4 := sorted_eat hs h2 (Nat.lt_of_lt_of_le h3 h.le)
  have hk : (eat l i).key = (eat l j).key := (h.same i h1 (by omega)).trans (h.same j (by omega) h3).symm
  by_cases h5 : (eat l i).seq = (eat l j).seq
  · rw [ecmp_of hk h5] at h4; omega
  · by_cases h6 : (eat l i).seq < (eat l j).seq
    · have h7 := ecmp_key hk.symm h6
      have h8 := ecmp_anti (eat l i) (eat l j)
      omega
    · omega

/-- The first of its key that one sees. -/
def Fst (W : List Int) (l : List Ent) (a j k : Nat) : Prop := (eat l j).seq ≤ uat W k ∧ (a < j → ¬ (eat l (j - 1)).seq ≤ uat W k)
theorem Part.vis {W : List Int} {l : List Ent} {a e j : Nat} (h : Part l a e) (h1 : a ≤ j) (h2 : j < e) : VisP W l j ↔ ∃ k, k < W.length ∧ Fst W l a j k := by
  have hk : a < j → (eat l (j - 1)).key = (eat l j).key := fun hj => (h.same (j - 1) (by omega) (by omega)).trans (h.same j h1 h2).symm
  unfold VisP Fst
  constructor
  · rintro ⟨x, hx, h3, h4⟩
    obtain ⟨k, hk', rfl⟩ := mem_uat.1 hx
    exact ⟨k, hk', h3, fun h5 h6 => h4 ⟨by omega, hk h5, h6⟩⟩
  · rintro ⟨k, hk', h3, h4⟩
    refine ⟨_, mem_uat.2 ⟨k, hk', rfl⟩, h3, fun ⟨h5, h6, h7⟩ => ?_⟩
    by_cases h8 : a < j
    · exact h4 h8 h7
    · obtain rfl : a = j := by omega
      exact h.ahead h5 h6

/-- What stands of out, while a key's entries (from a on, ahead of e) are gone through: those who look ahead of k are done. -/
def Marked (W : List Int) (l : List Ent) (a e k : Nat) (f : Nat → Bool) : Prop := ∀ j, j < l.length → (f j = true ↔ (j < a ∧ VisP W l j) ∨ (a ≤ j ∧ j < e ∧ ∃ k', k' < k ∧ Fst W l a j k'))
/-- The place from which the next one looks on. -/
def Down (W : List Int) (l : List Ent) (e i k : Nat) : Prop := ∀ j, i < j → j < e → (eat l (j - 1)).seq ≤ uat W k

theorem Marked.start (W : List Int) (l : List Ent) (f : Nat → Bool) (h : ∀ j, f j = false) : Marked W l 0 0 0 f := fun j _ => by simp [h]
theorem Marked.open_ {W : List Int} {l : List Ent} {a e : Nat} {f : Nat → Bool} (h : Marked W l a a 0 f) : Marked W l a e 0 f := fun j hj => by
  rw [h j hj]
  refine or_congr Iff.rfl ⟨fun h1 => by obtain ⟨_, _, k, hk, _⟩ := h1; omega, fun h1 => by obtain ⟨_, _, k, hk, _⟩ := h1; omega⟩
theorem Marked.close {W : List Int} {l : List Ent} {a e : Nat} {f : Nat → Bool} (hp : Part l a e) (h : Marked W l a e W.length f) : Marked W l e e 0 f := fun j hj => by
  rw [h j hj]
  constructor
  · rintro (⟨h1, h2⟩ | ⟨h1, h2, h3⟩)
    · exact .inl ⟨by have := hp.lt; omega, h2⟩
    · exact .inl ⟨h2, (hp.vis h1 h2).2 h3⟩
  · rintro (⟨h1, h2⟩ | ⟨_, h2, k, hk, _⟩)
    · by_cases h3 : j < a
      · exact .inl ⟨h3, h2⟩
      · exact .inr ⟨by omega, h1, (hp.vis (by omega) h1).1 h2⟩
    · omega
/-- Which one is marked: the place i, if it is seen. -/
theorem fst_at {W : List Int} {l : List Ent} {a e i k : Nat} (hs : Sorted l) (hp : Part l a e) (h1 : a ≤ i) (h2 : i < e) (hd : Down W l e i k) (hu : i = a ∨ ¬ (eat l (i - 1)).seq ≤ uat W k) {j : Nat} (hj1 : a ≤ j) (hj2 : j < e) :
    Fst W l a j k ↔ j = i ∧ (eat l i).seq ≤ uat W k := by
  constructor
  · rintro ⟨h3, h4⟩
    by_cases h5 : i < j
    · exact absurd (hd j h5 hj2) (h4 (by omega))
    · by_cases h6 : j < i
      · rcases hu with hu | hu
        · omega
        · exfalso
          by_cases h7 : j = i - 1
          · subst h7; exact hu h3
          · have := hp.fall hs hj1 (show j < i - 1 by omega) (by omega)
            omega
      · obtain rfl : j = i := by omega
        exact ⟨rfl, h3⟩
  · rintro ⟨rfl, h3⟩
    exact ⟨h3, fun h4 => hu.resolve_left (by omega)⟩
theorem Marked.next_on {W : List Int} {l : List Ent} {a e i k : Nat} {f : Nat → Bool} (h : Marked W l a e k f) (hs : Sorted l) (hp : Part l a e) (h1 : a ≤ i) (h2 : i < e) (hd : Down W l e i k) (hu : i = a ∨ ¬ (eat l (i - 1)).seq ≤ uat W k) (hx : (eat l i).seq ≤ uat W k) :
    Marked W l a e (k + 1) (fun j => if j = i then true else f j) := fun j hj => by
  have key : ∀ k', k' < k + 1 ↔ k' < k ∨ k' = k := fun k' => by omega
  by_cases hji : j = i
  · subst hji
    simp only [if_pos, true_iff]
    exact .inr ⟨h1, h2, k, Nat.lt_succ_self _, (fst_at hs hp h1 h2 hd hu h1 h2).2 ⟨rfl, hx⟩⟩
  · show (if j = i then true else f j) = true ↔ _
    rw [if_neg hji, h j hj]
    refine or_congr Iff.rfl ⟨fun ⟨g1, g2, k', hk', g3⟩ => ⟨g1, g2, k', by omega, g3⟩, fun ⟨g1, g2, k', hk', g3⟩ => ⟨g1, g2, k', ?_, g3⟩⟩
    rcases (key k').1 hk' with h5 | h5
    · exact h5
    · subst h5
      exact absurd ((fst_at hs hp h1 h2 hd hu g1 g2).1 g3).1 hji
theorem Marked.next_off {W : List Int} {l : List Ent} {a e i k : Nat} {f : Nat → Bool} (h : Marked W l a e k f) (hs : Sorted l) (hp : Part l a e) (h1 : a ≤ i) (h2 : i < e) (hd : Down W l e i k) (hu : i = a ∨ ¬ (eat l (i - 1)).seq ≤ uat W k) (hx : ¬ (eat l i).seq ≤ uat W k) :
    Marked W l a e (k + 1) f := fun j hj => by
  rw [h j hj]
  refine or_congr Iff.rfl ⟨fun ⟨g1, g2, k', hk', g3⟩ => ⟨g1, g2, k', by omega, g3⟩, fun ⟨g1, g2, k', hk', g3⟩ => ⟨g1, g2, k', ?_, g3⟩⟩
  by_cases h5 : k' < k
  · exact h5
  · obtain rfl : k' = k := by omega
    exact absurd ((fst_at hs hp h1 h2 hd hu g1 g2).1 g3).2 hx
theorem Down.later {W : List Int} {l : List Ent} {e i k : Nat} (h : Down W l e i k) (hw : UpTo W W.length) (hk : k + 1 < W.length) : Down W l e i (k + 1) := fun j h1 h2 => Int.le_trans (h j h1 h2) (hw.mono (Nat.le_succ _) hk)
theorem Down.less {W : List Int} {l : List Ent} {e i k : Nat} (h : Down W l e (i + 1) k) (hx : (eat l i).seq ≤ uat W k) : Down W l e i k := fun j h1 h2 => by
  by_cases e0 : j = i + 1
  · subst e0; exact hx
  · exact h j (by omega) h2
end Go.Proofs.Ytmpapipobjoboaa
