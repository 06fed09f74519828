/- Chapter 12: (*version.work).has. -/
import Derived.Test.YtkcohhldmhdcfaaVeS
namespace Go.Proofs.Ytkcohhldmhdcfaa
open Go.RowKit

/-- Is a file of a number anywhere? -/
def hasNum (ls : List (List Fil)) (num : Int) : Bool := ls.any fun l => l.any (numIs num)

set_option maxRecDepth 100000 in
theorem has11_any (F G : Nat → Prop) (f : Fil) (la : Option Addr) (lc : Nat) (ma : Option Addr) (mc : Nat) (num : Int) (nb : Nat) (w : World) (_hl : Bytes F w (.slice la f.least.length lc) f.least) (_hm : Bytes G w (.slice ma f.most.length mc) f.most) (hc : w.cell? ⟨nb, 0, none⟩ = some (.int .u64 num)) :
    Calls Try.prog 110 #[.agg #[.int .u64 f.num, .int .i64 f.size, .slice la f.least.length lc, .slice ma f.most.length mc, .int .i64 f.ents, .int .u64 f.mseq], .pointer (some ⟨nb, 0, none⟩)] w fun e w' => e = .returned (.bool (numIs num f)) ∧ Below w.heap.size w w' := by
  have HC := Lib.hid hc
  clear _hl _hm hc
  go_enter Try.func110, Try.ntmps110
  go_upto_region 1 with fail
  refine wp_gen fun w1 hw1 => ?_
  have HX1 : Hid (Blk w1 w.heap.size (filCells f (.slice la f.least.length lc) (.slice ma f.most.length mc)).toArray 42) := by rw [hw1]; exact Blk.at_new rfl rfl
  have HW1 : Hid (Below w.heap.size w w1) := by rw [hw1]; exact (Below.refl _ _).alloc (Nat.le_refl _) _
  have y1 : w1.cell? ⟨nb, 0, none⟩ = some (.int .u64 num) := by rw [hw1]; exact Lib.cell?_alloc_some _ HC.out
  clear hw1
  have x0 : w1.cell? ⟨w.heap.size, 0, none⟩ = some (.int .u64 f.num) := HX1.out.cell rfl
  go_wp2_with fail
  go_ret
  exact ⟨rfl, HW1.out⟩
theorem has11_bodied : Bodied 110 := fun _ _ => by kernel_rfl
theorem has11_asks (num : Int) (nb : Nat) (l : List Fil) (w : World) (hc : w.cell? ⟨nb, 0, none⟩ = some (.int .u64 num)) (hb : nb < w.heap.size) :
    Asks 110 #[.pointer (some ⟨nb, 0, none⟩)] (numIs num) l w := fun f la lc ma mc x _ hx hl hm =>
  has11_any _ _ f la lc ma mc num nb x hl hm ((hx.cell (p := ⟨nb, 0, none⟩) hb).trans hc)

set_option maxRecDepth 100000 in
theorem has1_any (F : Nat → Prop) (v : Value) (l : List Fil) (num : Int) (nb : Nat) (w : World) (h : Rw filK F w v l) (hfew : l.length ≤ 1000000) (hc : w.cell? ⟨nb, 0, none⟩ = some (.int .u64 num)) :
    Calls Try.prog 109 #[v, .pointer (some ⟨nb, 0, none⟩)] w fun e w' => e = .returned (.bool (l.any (numIs num))) ∧ Below w.heap.size w w' := by
  have HI := Lib.hid (fcontains_any F 110 #[.pointer (some ⟨nb, 0, none⟩)] (numIs num) v l w h hfew (has11_asks num nb l w hc (World.block_lt_of_cell? _ _ hc)) has11_bodied)
  obtain ⟨xa, ca, rfl⟩ := h.isSlice
  clear h hc
  go_enter Try.func109, Try.ntmps109
  go_wp2_with fail
  refine Calls.mono HI.out ?_
  rintro _ w2 ⟨rfl, hb⟩
  have HB := Lib.hid hb
  clear hb HI
  go_wp2_with fail
  go_ret
  exact ⟨rfl, HB.out⟩

/-- The first level that has one. -/
structure FirstL (p : List Fil → Bool) (l : List (List Fil)) (j : Nat) : Prop where
  le : j ≤ l.length
  off : ∀ i, i < j → p (lat l i) = false
  on : j < l.length → p (lat l j) = true
theorem FirstL.any {p : List Fil → Bool} {l : List (List Fil)} {j : Nat} (h : FirstL p l j) : l.any p = decide (j < l.length) := by
  by_cases hj : j < l.length
  · rw [decide_eq_true hj, List.any_eq_true]
    exact ⟨_, List.getElem_mem hj, by rw [lat_eq hj]; exact h.on hj⟩
  · rw [decide_eq_false hj, List.any_eq_false]
    intro x hx
    obtain ⟨i, hi, rfl⟩ := List.mem_iff_getElem.1 hx
    rw [lat_eq hi, h.off i (by omega)]
    decide

set_option maxRecDepth 100000 in
set_option maxHeartbeats 4000000 in
theorem lindex_any (F : Nat → Prop) (num : Int) (nb : Nat) (v : Value) (l : List (List Fil)) (w : World) (h : Rw (rowK filK) F w v l) (hl : l.length ≤ 1000000) (hfew : ∀ i, i < l.length → (lat l i).length ≤ 1000000) (hc : w.cell? ⟨nb, 0, none⟩ = some (.int .u64 num)) :
    Calls Try.prog 129 #[v, .func (.func 109) #[] #[.pointer (some ⟨nb, 0, none⟩)]] w fun e w' => ∃ j, FirstL (fun l => l.any (numIs num)) l j ∧ e = .returned (.int .i64 (if j < l.length then (j : Int) else -1)) ∧ Below w.heap.size w w' := by
  obtain ⟨xa, ca, rfl⟩ := h.isSlice
  have HA : Hid (Rw (rowK filK) (· < w.heap.size) w (.slice xa l.length ca) l) := h.mono fun k hk _ => hk
  have HC := Lib.hid hc
  have HFEW := Lib.hid hfew
  clear h hc hfew
  obtain ⟨n, hn⟩ : ∃ n, l.length = n := ⟨_, rfl⟩
  have HN := Lib.hid hn
  rw [hn] at HA hl
  rw [hn]
  clear hn
  go_enter Try.func129, Try.ntmps129
  go_wp2_with fail
  go_loopw [8] (fun iv wr => ∃ (j : Nat), iv = .int .i64 (j : Int) ∧ j ≤ n ∧ Hid (∀ i, i < j → (lat l i).any (numIs num) = false) ∧ Hid (Below w.heap.size w wr)) (fun iv _ => n - (intOf iv).toNat)
  case atStart => exact ⟨0, rfl, by omega, (fun i hi => by omega), Below.refl _ _⟩
  case round =>
    obtain ⟨j, rfl, hj, HO, HW⟩ := hrel
    by_cases hlt : j < n
    · have t1 : (j : Int) < (n : Int) := by omega
      have t3 : 0 ≤ (j : Int) := by omega
      have hl1 : j < l.length := by rw [HN.out]; omega
      obtain ⟨ba, oa, capa, ea, hba, _, hca⟩ := levs_at HA.out (by omega)
      obtain ⟨u, hu, c0⟩ := hca j hl1
      injection ea with e1 e2 e3
      subst e1 e3
      clear e2 hca
      have HLE := Lib.hid (HFEW.out j hl1)
      obtain ⟨f, hf⟩ : ∃ f, lat l j = f := ⟨_, rfl⟩
      have HF := Lib.hid hf
      rw [hf] at hu HLE
      obtain ⟨la, lc, rfl⟩ := hu.isSlice
      have HU := Lib.hid hu
      have c0 := (HW.out.cell (p := ⟨ba, oa + j, none⟩) hba).trans c0
      clear hu hl1 hf hba
      go_wp2_with fail
      clear c0
      refine Calls.mono (has1_any _ (.slice la f.length lc) f num nb _ (HU.out.keep fun k hk hF => HW.out.block k hk) HLE.out ((HW.out.cell (p := ⟨nb, 0, none⟩) (World.block_lt_of_cell? _ _ HC.out)).trans HC.out)) ?_
      rintro _ w2 ⟨rfl, hb⟩
      have HW2 : Hid (Below w.heap.size w w2) := HW.out.trans (hb.mono HW.out.size)
      clear hb HW HU
      obtain ⟨r, hr⟩ : ∃ r, f.any (numIs num) = r := ⟨_, rfl⟩
      have HR := Lib.hid hr
      rw [hr]
      clear hr
      cases r with
      | false =>
        go_wp2_with fail
        go_roundw
        · exact ⟨j + 1, by go_num, by omega, (fun i hi => by
            by_cases e0 : i = j
            · rw [e0, HF.out]; exact HR.out
            · exact HO.out i (by omega)), HW2.out⟩
        · simp only [intOf]; omega
      | true =>
        have HP : Hid (FirstL (fun l => l.any (numIs num)) l j) := ⟨by rw [HN.out]; omega, HO.out, fun _ => by rw [HF.out]; exact HR.out⟩
        have HE : Hid ((j : Int) = if j < n then (j : Int) else -1) := by show _ = _; rw [if_pos hlt]
        go_wp2_with fail
        go_ret
        exact ⟨j, HP.out, ret_int HE.out, HW2.out⟩
    · have t1 : ¬ (j : Int) < (n : Int) := by omega
      have hjn : j = n := by omega
      have HP : Hid (FirstL (fun l => l.any (numIs num)) l j) := ⟨by rw [HN.out]; omega, HO.out, fun h => by rw [HN.out] at h; omega⟩
      have HE : Hid ((-1 : Int) = if j < n then (j : Int) else -1) := by show _ = _; rw [if_neg hlt]
      clear hjn
      go_wp2_with fail
      go_ret
      exact ⟨j, HP.out, ret_int HE.out, HW.out⟩

set_option maxRecDepth 100000 in
theorem lcontains_any (F : Nat → Prop) (num : Int) (nb : Nat) (v : Value) (l : List (List Fil)) (w : World) (h : Rw (rowK filK) F w v l) (hl : l.length ≤ 1000000) (hfew : ∀ i, i < l.length → (lat l i).length ≤ 1000000) (hc : w.cell? ⟨nb, 0, none⟩ = some (.int .u64 num)) :
    Calls Try.prog 108 #[v, .func (.func 109) #[] #[.pointer (some ⟨nb, 0, none⟩)]] w fun e w' => e = .returned (.bool (hasNum l num)) ∧ Below w.heap.size w w' := by
  have HI := Lib.hid (lindex_any F num nb v l w h hl hfew hc)
  obtain ⟨xa, ca, rfl⟩ := h.isSlice
  clear h hc
  go_enter Try.func108, Try.ntmps108
  go_wp2_with fail
  refine Calls.mono HI.out ?_
  rintro _ w2 ⟨j, hj, rfl, hb⟩
  have HB := Lib.hid hb
  have HA := Lib.hid hj.any
  clear hb hj HI
  by_cases hlt : j < l.length
  · have t1 : 0 ≤ (j : Int) := by omega
    rw [if_pos hlt]
    have HE : Hid (hasNum l num = true) := by show _ = _; unfold hasNum; rw [HA.out, decide_eq_true hlt]
    clear hlt HA
    go_wp2_with fail
    go_ret
    exact ⟨ret_bool HE.out.symm, HB.out⟩
  · rw [if_neg hlt]
    have HE : Hid (hasNum l num = false) := by show _ = _; unfold hasNum; rw [HA.out, decide_eq_false hlt]
    clear hlt HA
    go_wp2_with fail
    go_ret
    exact ⟨ret_bool HE.out.symm, HB.out⟩

set_option maxRecDepth 100000 in
theorem has_any (D E : Nat → Prop) (A wb g : Nat) (us : List Value) (files : List (List Fil)) (num nx sq lg : Int) (w : World) (h : WorkAt D E A wb g us files nx sq lg w) (hfew : ∀ i, i < 5 → (lat files i).length ≤ 1000000) :
    Calls Try.prog 70 #[.pointer (some ⟨wb, 0, none⟩), .int .u64 num] w fun e w' => e = .returned (.bool (hasNum files num)) ∧ Below w.heap.size w w' := by
  have h5 : files.length = 5 := by rw [← h.fl.len]; exact h.five
  have HH := Lib.hid h
  have HR := Lib.hid h.fl.rows
  have HF := Lib.hid (fun i (hi : i < files.length) => hfew i (by omega))
  have H5 := Lib.hid h5
  clear h hfew h5
  go_enter Try.func70, Try.ntmps70
  go_upto_region 1 with fail
  refine wp_gen fun w1 hw1 => ?_
  have HX1 : Hid (Blk w1 w.heap.size #[.int .u64 num] 23) := by rw [hw1]; exact Blk.at_new rfl rfl
  have HW1 : Hid (Below w.heap.size w w1) := by rw [hw1]; exact (Below.refl _ _).alloc (Nat.le_refl _) _
  have y0 : w1.cell? ⟨wb, 0, none⟩ = some (.slice (some ⟨g, 0, none⟩) 5 5) := by rw [hw1]; exact Lib.cell?_alloc_some _ (HH.out.blk.cell rfl)
  clear hw1
  go_wp2_with fail
  clear y0
  refine Calls.mono (lcontains_any _ num w.heap.size (.slice (some ⟨g, 0, none⟩) 5 5) files w1 (HR.out.below HW1.out) (by rw [H5.out]; omega) HF.out (HX1.out.cell rfl)) ?_
  rintro _ w2 ⟨rfl, hb⟩
  have HW2 : Hid (Below w.heap.size w w2) := HW1.out.trans (hb.mono HW1.out.size)
  clear hb HX1 HW1
  go_wp2_with fail
  go_ret
  exact ⟨rfl, HW2.out⟩
end Go.Proofs.Ytkcohhldmhdcfaa
