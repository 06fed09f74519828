/- Chapter 12: slices.Insert of one file into a row of one's own. -/
import Derived.Test.YtkcohhldmhdcfaaVeQ
namespace Go.Proofs.Ytkcohhldmhdcfaa
open Go.RowKit

theorem over2_take {c : Array Value} {i n : Nat} {fc tl : List Value} (hf : fc.length = 6) (ht : tl.length = (n - i) * 6) (hi : i ≤ n) (hs : (n + 1) * 6 ≤ c.size) :
    (over (over c ((i + 1) * 6) tl) (i * 6) fc).toList.take ((n + 1) * 6) = c.toList.take (i * 6) ++ (fc ++ tl) := by
  have hs1 : (i + 1) * 6 + tl.length ≤ c.size := by omega
  have hcl : c.toList.length = c.size := Array.length_toList
  have h1 : (over c ((i + 1) * 6) tl).toList = c.toList.take ((i + 1) * 6) ++ tl ++ c.toList.drop ((i + 1) * 6 + tl.length) := by unfold over; rfl
  have e : (i + 1) * 6 = i * 6 + fc.length := by omega
  have h2 : (over (over c ((i + 1) * 6) tl) (i * 6) fc).toList = c.toList.take (i * 6) ++ (fc ++ tl) ++ c.toList.drop ((i + 1) * 6 + tl.length) := by
    rw [show (over (over c ((i + 1) * 6) tl) (i * 6) fc).toList = (over c ((i + 1) * 6) tl).toList.take (i * 6) ++ fc ++ (over c ((i + 1) * 6) tl).toList.drop (i * 6 + fc.length) by unfold over; rfl]
    rw [h1, ← e]
    have l1 : (c.toList.take ((i + 1) * 6)).length = (i + 1) * 6 := by rw [List.length_take]; omega
    rw [List.append_assoc (c.toList.take ((i + 1) * 6)), List.take_append_of_le_length (by omega), List.drop_append_of_le_length (by omega), List.take_take, Nat.min_eq_left (by omega), List.drop_of_length_le (by omega)]
    simp
  rw [h2, List.take_append_of_le_length (by simp only [List.length_append, List.length_take]; omega), List.take_of_length_le (by simp only [List.length_append, List.length_take]; omega)]

theorem overlaps_false (g vb i lb cb : Nat) (w : World) (cur : Array Value) (c : Array Value) (hne : vb ≠ g) (hg : Blk w g cur 42) (hc : 0 < cur.size) (hv : Blk w vb c 42) :
    (callFunc 130 #[.slice (some ⟨vb, 0, none⟩) 1 1, .slice (some ⟨g, i, none⟩) lb cb]).run Try.prog w = .ok (.value (.bool false)) w := by
  rw [run_callFunc_extern Try.func130 (by kernel_rfl) (by kernel_rfl) (by kernel_rfl) (e := Extern.SlicesOverlaps.overlaps #[33, 33] #[4]) (by kernel_rfl),
    Lib.run_overlaps_apart w 33 4 42 under_fils 6 (run_sizeOf size_fil) ⟨vb, 0, none⟩ ⟨g, i, none⟩ 1 1 lb cb hne _ _ _ _ hv.shape hg.shape (by omega) (hv.free _) (hv.free _)]
  rfl

theorem blk_src {w : World} {vb : Nat} {f : Fil} {vl vm : Value} (hB : Blk w vb (filCells f vl vm).toArray 42) : Sl (fun k => k = vb) w 6 (.slice (some ⟨vb, 0, none⟩) 1 1) 1 (filCells f vl vm) := by
  refine ⟨_, _, rfl, Nat.le_refl _, by simp [maxLen], by simp, rfl, fun j u hj => ⟨_, rfl, rfl, ?_⟩⟩
  rw [add_plain', Nat.zero_add]
  exact hB.cell (by simpa using hj)

/-- A file put in at i. -/
def insAt (fs : List Fil) (i : Nat) (f : Fil) : List Fil := fs.take i ++ f :: fs.drop i
theorem insAt_len {fs : List Fil} {i : Nat} {f : Fil} (h : i ≤ fs.length) : (insAt fs i f).length = fs.length + 1 := by simp [insAt]; omega
theorem insAt_end (fs : List Fil) (f : Fil) : insAt fs fs.length f = fs ++ [f] := by simp [insAt]
theorem els_insAt {H : Nat → Prop} {w : World} {cs fc : List Value} {fs : List Fil} {i : Nat} {f : Fil} (h : Els filK H w cs fs) (hf : filK.R H w fc f) : Els filK H w (cs.take (i * 6) ++ (fc ++ cs.drop (i * 6))) (insAt fs i f) := by
  refine Els.append ?_ (h.take i)
  exact Els.append (xs := [f]) (h.drop i) (Els.single hf)

set_option maxRecDepth 100000 in
set_option maxHeartbeats 4000000 in
theorem fins_end (FF : Nat → Prop) (A : Nat) (v : Value) (fs : List Fil) (f : Fil) (vl vm : Value) (vb : Nat) (w : World) (h : ROwnF filK FF A 42 w v fs) (hfew : fs.length < 100000)
    (hB : Blk w vb (filCells f vl vm).toArray 42) (hf : filK.R (fun k => FF k ∧ v.ownBlock ≠ some k) w (filCells f vl vm) f) (hA : A ≤ w.heap.size) :
    Calls Try.prog 113 #[v, .int .i64 (fs.length : Int), .slice (some ⟨vb, 0, none⟩) 1 1] w (RowPost FF A (insAt fs fs.length f) v w) := by
  rw [insAt_end]
  obtain ⟨X1, hX1, _⟩ := h.rows.slice_l under_filsP size_filsP fs.length (Nat.le_refl _)
  obtain ⟨a, c, rfl⟩ := h.isSlice
  have HH := Lib.hid h
  have HB := Lib.hid hB
  have HF := Lib.hid hf
  obtain ⟨n, hn⟩ : ∃ n, fs.length = n := ⟨_, rfl⟩
  have HN := Lib.hid hn
  rw [hn] at HH HF hX1 hfew ⊢
  clear hn h hf hB
  go_enter Try.func113, Try.ntmps113
  go_wp2_with (with_reducible refine pause_append ?_)
  refine Pause.go (wpList_append_elF 33 42 zeroFil 80 under_fils info_filO rfl FF A (.slice a n c) fs vb 42 _ f rfl _ _ rfl rfl rfl HH.out HB.out HF.out (by rw [HN.out]; omega) (by omega) hA ?_)
  intro v' w' hr hg
  obtain ⟨a', c', rfl⟩ := hr.isSlice
  have HR := Lib.hid hr
  have HG := Lib.hid hg
  have HL : Hid ((fs ++ [f]).length = n + 1) := by show _ = _; rw [List.length_append, HN.out]; rfl
  rw [HL.out] at HR HG ⊢
  clear hr hg hX1
  go_wp2_with fail
  go_ret
  exact ⟨_, rfl, HR.out, HG.out⟩

set_option maxRecDepth 100000 in
set_option maxHeartbeats 4000000 in
theorem fins_shift (FF : Nat → Prop) (A e0 g cap : Nat) (cur : Array Value) (fs : List Fil) (i n : Nat) (f : Fil) (vl vm : Value) (vb : Nat) (w : World) (he : e0 = 42) (hn : fs.length = n) (hR : RowB A e0 g cap n cur w) (hE : Els filK (fun k => FF k ∧ k ≠ g) w (cur.toList.take (n * 6)) fs) (hi : i < n) (hfew : n < 100000) (hroom : n + 1 ≤ cap)
    (hB : Blk w vb (filCells f vl vm).toArray 42) (hf : filK.R (fun k => FF k ∧ k ≠ g) w (filCells f vl vm) f) (hne : vb ≠ g) :
    Calls Try.prog 113 #[.slice (some ⟨g, 0, none⟩) n cap, .int .i64 (i : Int), .slice (some ⟨vb, 0, none⟩) 1 1] w (RowPost FF A (insAt fs i f) (.slice (some ⟨g, 0, none⟩) n cap) w) := by
  subst he
  have hcap := hR.cap
  have hsz := hR.size
  simp only [maxLen] at hcap
  have HN := Lib.hid hn
  have HR := Lib.hid hR
  have HE := Lib.hid hE
  have HB := Lib.hid hB
  have HF := Lib.hid hf
  have HNE := Lib.hid hne
  have i1 : ((i + 1 : Nat) : Int) = (i : Int) + 1 := by omega
  have n1 : ((n + 1 : Nat) : Int) = (n : Int) + 1 := by omega
  have hX1 := fsl_l g n cap i (by omega) (by omega)
  have hX2 := fsl_h g n cap (n + 1) (by omega)
  rw [n1] at hX2
  have hX3 := fsl_l g (n + 1) cap (i + 1) (by omega) (by omega)
  rw [i1] at hX3
  have hX4 := fsl_l g (n + 1) cap i (by omega) (by omega)
  have hov := fun lb cb => overlaps_false g vb ((i + 1) * 6) lb cb w cur _ hne hR.blk (by omega) hB
  -- what is moved
  have HS : Hid (Sl (fun k => k = g) w 6 (.slice (some ⟨g, i * 6, none⟩) (n + 1 - i) (cap - i)) (n + 1 - i) ((cur.toList.take ((n + 1) * 6)).drop (i * 6))) := by
    have h1 := (hR.of (n' := n + 1) hR.blk rfl hroom).sl
    have h2 := h1.cut i (n + 1) (by omega) (Nat.le_refl _)
    unfold cutAddr at h2
    rw [if_neg (by omega)] at h2
    simp only [Option.map_some, add_plain', Nat.zero_add] at h2
    rw [List.take_of_length_le (by rw [List.length_drop, List.length_take, Array.length_toList (xs := cur)]; omega)] at h2
    exact h2
  have t1 : ((i : Int) == (n : Int)) = false := by simp; omega
  have t2 : decide ((cap : Int) < (n : Int) + 1) = false := decide_eq_false (by omega)
  have w1 : IntKind.i64.wrap ((i : Int) + 1) = (i : Int) + 1 := by rw [wrap_small (by omega) (by omega)]
  have HC := Lib.hid hcap
  have HZ := Lib.hid hsz
  have HRM := Lib.hid hroom
  clear hn hR hE hB hf hne hcap hsz i1 n1
  go_enter Try.func113, Try.ntmps113
  go_wp2_with (simp only [hov])
  have HS2 : Hid (cur.size = cap * 6 ∧ n * 6 + 6 ≤ cap * 6) := ⟨HZ.out, by have := HRM.out; omega⟩
  obtain ⟨tl, htl⟩ : ∃ tl, ((cur.toList.take ((n + 1) * 6)).drop (i * 6)).take ((n - i) * 6) = tl := ⟨_, rfl⟩
  have HTL : Hid (tl = (cur.toList.take (n * 6)).drop (i * 6)) := by
    show _ = _
    rw [← htl, List.drop_take, List.drop_take, List.take_take, Nat.min_eq_left (by omega)]
    congr 1
    omega
  have HTN : Hid (tl.length = (n - i) * 6) := by
    show _ = _
    have := HS2.out
    rw [HTL.out, List.length_drop, List.length_take, Array.length_toList (xs := cur)]
    omega
  have HONE : Hid (∀ u ∈ tl, u.oneCell' = true) := fun u hu => by
    rw [HTL.out] at hu
    exact HE.out.one u (List.mem_of_mem_drop hu)
  go_region_law (refine step_copy_blk rfl (.tmp 73) (.tmp 76) 33 42 rfl under_fils 6 size_fil g ((i + 1) * 6) (n + 1 - (i + 1)) (cap - (i + 1)) (by simp [Act.eval, Act.put]) 42 cur HR.out.blk.drewP _ _ (n + 1 - i) _ (by simp [Act.eval, Act.put]) HS.out.drewP (n - i) (by rw [htl]; exact HONE.out) (by simp only [Nat.min_def]; split <;> omega) (by have := HS2.out; omega) ?_; intro w2 hb2 hw2)
  rw [htl] at hb2
  have HB2 := Lib.hid hb2
  have HW2 : Hid (Wrote (fun k => k = g) w w2) := (Wrote.of_below (below_dn (Below.refl _ _) 1)).trans hw2
  clear hb2 hw2 hX2 hX3 htl
  go_wp2_with (with_reducible refine pause_copy ?_)
  have HV2 : Hid (Blk w2 vb (filCells f vl vm).toArray 42) := HB.out.same (HW2.out.block _ HB.out.lt HNE.out)
  have h12 : (filCells f vl vm).take (1 * 6) = filCells f vl vm := rfl
  refine Pause.go (wpList_copy_blk rfl _ _ 33 42 rfl under_fils 6 size_fil g (i * 6) (n + 1 - i) (cap - i) rfl _ _ HB2.out _ _ 1 (filCells f vl vm) rfl (blk_src HV2.out) 1 ?_ ?_ ?_ ?_)
  · rw [h12]; exact filK.one HF.out
  · simp only [Nat.min_def]; split <;> omega
  · rw [over_size _ _ _ (by have := HS2.out; have := HTN.out; omega)]
    have := HS2.out
    omega
  intro w3 hb3 hw3
  rw [h12] at hb3
  have HP : Hid (RowPost FF A (insAt fs i f) (.slice (some ⟨g, 0, none⟩) n cap) w (.returned (.slice (some ⟨g, 0, none⟩) (n + 1) cap)) w3) := by
    have h2 := HS2.out
    have h3 := HTN.out
    have hww := HW2.out.trans hw3
    have hil : (insAt fs i f).length = n + 1 := by rw [insAt_len (by rw [HN.out]; omega), HN.out]
    refine ⟨_, rfl, ?_, grew_of_wrote hww⟩
    rw [← hil]
    have hov : (i + 1) * 6 + tl.length ≤ cur.size := by omega
    refine ROwnF.of_rowB (HR.out.of hb3 ((over_size _ _ _ (by rw [over_size _ _ _ hov]; show i * 6 + 6 ≤ _; omega)).trans (over_size _ _ _ hov)) (by rw [hil]; exact HRM.out)) ?_
    rw [hil, over2_take (n := n) rfl h3 (by omega) (by omega), HTL.out]
    have h5 := els_insAt (i := i) HE.out HF.out
    rw [List.take_take, Nat.min_eq_left (by omega)] at h5
    exact h5.wrote hww fun _ h => h.2
  clear HB2 HW2 hb3 hw3 HV2
  go_wp2_with fail
  go_ret
  exact HP.out

set_option maxRecDepth 100000 in
set_option maxHeartbeats 4000000 in
theorem fins_grow (FF : Nat → Prop) (A e0 g cap : Nat) (cur : Array Value) (fs : List Fil) (i n : Nat) (f : Fil) (vl vm : Value) (vb : Nat) (w : World) (he : e0 = 42) (hn : fs.length = n) (hR : RowB A e0 g cap n cur w) (hE : Els filK (fun k => FF k ∧ k ≠ g) w (cur.toList.take (n * 6)) fs) (hi : i < n) (hfew : n < 100000) (hroom : cap < n + 1)
    (hB : Blk w vb (filCells f vl vm).toArray 42) (hf : filK.R (fun k => FF k ∧ k ≠ g) w (filCells f vl vm) f) (hA : A ≤ w.heap.size) :
    Calls Try.prog 113 #[.slice (some ⟨g, 0, none⟩) n cap, .int .i64 (i : Int), .slice (some ⟨vb, 0, none⟩) 1 1] w (RowPost FF A (insAt fs i f) (.slice (some ⟨g, 0, none⟩) n cap) w) := by
  subst he
  have hcap := hR.cap
  have hsz := hR.size
  have hnc := hR.room
  simp only [maxLen] at hcap
  obtain rfl : cap = n := by omega
  have HN := Lib.hid hn
  have HR := Lib.hid hR
  have HE := Lib.hid hE
  have HB := Lib.hid hB
  have HF := Lib.hid hf
  have HA := Lib.hid hA
  have hX1 := fsl_l g cap cap i (by omega) (by omega)
  have hX2 := fsl_h g cap cap i (by omega)
  have i1 : ((i + 1 : Nat) : Int) = (i : Int) + 1 := by omega
  have HS : Hid (Sl (fun k => k = g) w 6 (.slice (some ⟨g, i * 6, none⟩) (cap - i) (cap - i)) (cap - i) ((cur.toList.take (cap * 6)).drop (i * 6))) := by
    have h2 := hR.sl.cut i cap (by omega) (Nat.le_refl _)
    unfold cutAddr at h2
    rw [if_neg (by omega)] at h2
    simp only [Option.map_some, add_plain', Nat.zero_add] at h2
    rw [List.take_of_length_le (by rw [List.length_drop, List.length_take, Array.length_toList (xs := cur)]; omega)] at h2
    exact h2
  have t1 : ((i : Int) == (cap : Int)) = false := by simp; omega
  have t2 : (cap : Int) < (cap : Int) + 1 := by omega
  have w1 : IntKind.i64.wrap ((i : Int) + 1) = (i : Int) + 1 := by rw [wrap_small (by omega) (by omega)]
  have HZ := Lib.hid hsz
  have HI1 := Lib.hid i1
  clear hn hR hE hB hf hcap hsz i1 hA
  go_enter Try.func113, Try.ntmps113
  go_wp2_with (with_reducible refine pause_append ?_)
  refine Pause.go (wpList_append_zeros rfl _ _ 33 3 42 rfl under_fils Try.underlying3 zeroFil 6 80 info_filO rfl (by decide) g i cap rfl _ cur HR.out.blk (by have := HZ.out; omega) (cap + 1 - i) _ ?_ rfl (by omega) (by omega) (by omega) (by decide) (cap + 1) (by omega) ?_)
  · omega
  intro w2 g2 cap2 cur2 hg2 hb2 hs2 hr2 hm2 htk hB2
  simp only [maxLen] at hm2
  have hX3 := fsl_l g2 (cap + 1) cap2 i (by omega) (by omega)
  have hX4 := fsl_l g2 (cap + 1) cap2 (i + 1) (by omega) (by omega)
  rw [HI1.out] at hX4
  have HB2 := Lib.hid hb2
  have HS2 : Hid (cur2.size = cap2 * 6 ∧ cap + 1 ≤ cap2 ∧ cap2 ≤ maxLen) := ⟨hs2, hr2, by simp only [maxLen]; exact hm2⟩
  have HTK := Lib.hid htk
  have HBW := Lib.hid hB2
  have HG2 := Lib.hid hg2
  have HV2 : Hid (Blk w2 vb (filCells f vl vm).toArray 42) := HB.out.below hB2 HB.out.lt
  have HGO : Hid (Blk w2 g cur 42) := HR.out.blk.below hB2 HR.out.blk.lt
  have h12 : (filCells f vl vm).take (1 * 6) = filCells f vl vm := rfl
  have H12 := Lib.hid h12
  clear hb2 hs2 htk hB2 hg2 h12
  go_wp2_with (with_reducible refine pause_copy ?_)
  refine Pause.go (wpList_copy_blk rfl _ _ 33 42 rfl under_fils 6 size_fil g2 (i * 6) (cap + 1 - i) (cap2 - i) rfl _ _ HB2.out _ _ 1 (filCells f vl vm) rfl (blk_src HV2.out) 1 ?_ ?_ ?_ ?_)
  · rw [H12.out]; exact filK.one HF.out
  · simp only [Nat.min_def]; split <;> omega
  · have := HS2.out
    omega
  intro w3 hb3 hw3
  rw [H12.out] at hb3
  have HB3 := Lib.hid hb3
  have HW3 := Lib.hid hw3
  have HGN : Hid (g ≠ g2) := by
    have h1 := HG2.out
    have h2 := HR.out.blk.lt
    show g ≠ g2
    omega
  have HS3 : Hid (Sl (fun k => k = g) w3 6 (.slice (some ⟨g, i * 6, none⟩) (cap - i) (cap - i)) (cap - i) ((cur.toList.take (cap * 6)).drop (i * 6))) :=
    HS.out.keep fun k hk hF => ((hw3.block k (Nat.lt_of_lt_of_le hk HBW.out.size) (by rw [hF]; exact HGN.out)).trans (HBW.out.block k hk))
  obtain ⟨tl, htl⟩ : ∃ tl, (cur.toList.take (cap * 6)).drop (i * 6) = tl := ⟨_, rfl⟩
  have HTN : Hid (tl.length = (cap - i) * 6) := by
    show _ = _
    have := HZ.out
    rw [← htl, List.length_drop, List.length_take, Array.length_toList (xs := cur)]
    omega
  have HTT : Hid (tl.take ((cap - i) * 6) = tl) := List.take_of_length_le (by rw [HTN.out]; exact Nat.le_refl _)
  have HONE : Hid (∀ u ∈ tl, u.oneCell' = true) := fun u hu => by
    rw [← htl] at hu
    exact HE.out.one u (List.mem_of_mem_drop hu)
  rw [htl] at HS3
  have HTL := Lib.hid htl
  clear hb3 hw3 htl HB2
  go_upto_region 11 with fail
  go_region_law (refine step_copy_blk rfl (.tmp 50) (.tmp 53) 33 42 rfl under_fils 6 size_fil g2 ((i + 1) * 6) (cap + 1 - (i + 1)) (cap2 - (i + 1)) (by simp [Act.eval, Act.put]) 42 _ HB3.out.drewP _ _ (cap - i) _ (by simp [Act.eval, Act.put]) HS3.out.drewP (cap - i) (by rw [HTT.out]; exact HONE.out) (by simp only [Nat.min_def]; split <;> omega) (by rw [over_size _ _ _ (by have := HS2.out; show i * 6 + 6 ≤ _; omega)]; have := HS2.out; omega) ?_; intro w4 hb4 hw4)
  rw [HTT.out] at hb4
  have HP : Hid (RowPost FF A (insAt fs i f) (.slice (some ⟨g, 0, none⟩) cap cap) w (.returned (.slice (some ⟨g2, 0, none⟩) (cap + 1) cap2)) w4) := by
    have h2 := HS2.out
    have h3 := HTN.out
    have hWW : Wrote (fun k => w.heap.size ≤ k) w w4 := by
      have a1 : Wrote (fun k => w.heap.size ≤ k) w w2 := Wrote.of_below HBW.out
      have a2 : Wrote (fun k => w.heap.size ≤ k) w2 w3 := ⟨HW3.out.os, HW3.out.tape, HW3.out.output, HW3.out.size, fun k hk hn => HW3.out.block k hk fun e => hn (by rw [e]; exact HG2.out)⟩
      have a3 : Wrote (fun k => w.heap.size ≤ k) w3 w4 := ⟨hw4.os, hw4.tape, hw4.output, hw4.size, fun k hk hn => hw4.block k hk fun e => hn (by rw [e]; exact HG2.out)⟩
      exact (a1.trans a2).trans a3
    have hil : (insAt fs i f).length = cap + 1 := by rw [insAt_len (by rw [HN.out]; omega), HN.out]
    refine ⟨_, rfl, ?_, ⟨⟨hWW.os, hWW.tape, hWW.output, hWW.size, fun k hk _ => hWW.block k hk (by omega)⟩, fun k hk => .inr ?_⟩⟩
    · rw [← hil]
      have hov : i * 6 + (filCells f vl vm).length ≤ cur2.size := by show i * 6 + 6 ≤ _; omega
      refine ROwnF.of_rowB ⟨Nat.le_trans HA.out HG2.out, hb4, ?_, by rw [hil]; exact h2.2.1, h2.2.2⟩ ?_
      · rw [over_size _ _ _ (by rw [over_size _ _ _ hov]; omega), over_size _ _ _ hov]; exact h2.1
      · rw [hil, over_take (by rw [over_size _ _ _ hov]; omega) (by omega), over_take hov (by show i * 6 + 6 = _; omega), HTK.out, ← HTL.out]
        have h5 := els_insAt (i := i) HE.out HF.out
        rw [List.take_take, Nat.min_eq_left (by omega), ← List.append_assoc] at h5
        have h6 := h5.mono (F' := fun k => FF k ∧ k < w.heap.size) fun k hk hF => ⟨hF.1, hk⟩
        exact (h6.keep (w' := w4) fun k _ hF => hWW.block k hF.2 (by omega)).mono fun k _ hF => ⟨hF.1, by have := HG2.out; omega⟩
    · injection hk with hk
      rw [← hk]
      exact HG2.out
  clear HB3 HW3 hb4 hw4 HS3 hX1 hX2 hX3 hX4
  go_wp2_with fail
  go_ret
  exact HP.out

theorem fins_any (FF : Nat → Prop) (A : Nat) (v : Value) (fs : List Fil) (i : Nat) (f : Fil) (vl vm : Value) (vb : Nat) (w : World) (h : ROwnF filK FF A 42 w v fs) (hi : i ≤ fs.length) (hfew : fs.length < 100000)
    (hB : Blk w vb (filCells f vl vm).toArray 42) (hf : filK.R (fun k => FF k ∧ v.ownBlock ≠ some k) w (filCells f vl vm) f) (hA : A ≤ w.heap.size) (hne : v.ownBlock ≠ some vb) :
    Calls Try.prog 113 #[v, .int .i64 (i : Int), .slice (some ⟨vb, 0, none⟩) 1 1] w (RowPost FF A (insAt fs i f) v w) := by
  by_cases he : i = fs.length
  · subst he
    exact fins_end FF A v fs f vl vm vb w h hfew hB hf hA
  · obtain ⟨g, cap, cur, rfl, hR, hE⟩ := h.rowB (by omega)
    have hf' := filK.mono (F' := fun k => FF k ∧ k ≠ g) hf fun k _ hF => ⟨hF.1, fun e => hF.2 (by rw [e]; rfl)⟩
    by_cases hr : fs.length + 1 ≤ cap
    · exact fins_shift FF A _ g cap cur fs i fs.length f vl vm vb w rfl rfl hR hE (by omega) hfew hr hB hf' (fun e => hne (by rw [e]; rfl))
    · exact fins_grow FF A _ g cap cur fs i fs.length f vl vm vb w rfl rfl hR hE (by omega) hfew (by omega) hB hf' hA
end Go.Proofs.Ytkcohhldmhdcfaa
