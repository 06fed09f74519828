/- Chapter 17's document: plain, Check, Copy. -/
import Derived.Test.YtiofhmlmimbngaaSpanC
namespace Go.Proofs.Ytiofhmlmimbngaa
open Go.RowKit

set_option maxRecDepth 100000 in
theorem plain_any (s : ByteArray) (w : World) (hs : s.size ≤ 1000000) :
    Calls Try.prog 51 #[.string s] w fun e w' => e = .returned (.bool (Sp.plain s)) ∧ w' = w := by
  go_enter Try.func51, Try.ntmps51
  go_wp2_with fail
  go_loop [3] (fun n => ∃ j : Nat, n = .int .i64 j ∧ j ≤ s.size ∧ Hid ((s.data.toList.take j).all Sp.okByte = true)) (fun n => s.size - (intOf n).toNat)
  case atStart => exact ⟨0, rfl, by omega, rfl⟩
  case round =>
    obtain ⟨j, rfl, hj, HA⟩ := hrel
    by_cases hlt : j < s.size
    · have HS : Hid (Sp.okByte s[j] = true → (s.data.toList.take (j + 1)).all Sp.okByte = true) := fun hc => by
        rw [List.take_succ_eq_append_getElem (by simpa using hlt), List.all_append, HA.out]
        simp only [List.all_cons, List.all_nil, Bool.and_true, Bool.true_and]
        exact hc
      have HF : Hid (Sp.okByte s[j] = false → Sp.plain s = false) := fun hc => by
        have hm : s[j] ∈ s.data.toList := by
          have : s[j] = s.data.toList[j]'(by simpa using hlt) := rfl
          rw [this]; exact List.getElem_mem _
        cases hp : Sp.plain s with
        | false => rfl
        | true => rw [List.all_eq_true.1 hp _ hm] at hc; cases hc
      generalize hcc : s[j] = c at HS HF
      go_wp2_with fail
      all_goals rw [hcc] at *
      · go_ret
        exact ⟨ret_bool (HF.out (by simp [Sp.okByte]; omega)).symm, rfl⟩
      · go_round
        case rel => exact ⟨j + 1, by go_num, by omega, HS.out (by simp [Sp.okByte]; omega)⟩
        case measure => simp only [intOf]; omega
      · go_ret
        exact ⟨ret_bool (HF.out (by simp [Sp.okByte]; omega)).symm, rfl⟩
    · have HT : Hid (Sp.plain s = true) := by
        have h1 := HA.out
        rw [List.take_of_length_le (by simp; omega)] at h1
        exact h1
      go_wp2_with fail
      go_ret
      exact ⟨ret_bool HT.out.symm, rfl⟩

theorem rowned_lit_at {α : Type} (K : Kind α) (e : Nat) {w : World} {B : Nat} (h : B = w.heap.size) : ROwned K B e (w.alloc (.cells #[] e)) (.slice (some ⟨B, 0, none⟩) 0 0) [] := by
  subst h; exact ROwned.lit K e w

set_option maxRecDepth 100000 in
theorem rcopy_any (F : Nat → Prop) (s : Sp.T) (vt : Value) (w : World) (hv : Rw tagK F w vt s.tags) (hl : s.tags.length ≤ 1000000) :
    Calls Try.prog 38 #[.agg (spanCells s vt).toArray] w fun e w' => ∃ vt', e = .returned (.agg (spanCells s vt').toArray) ∧ Rw tagK (fun k => w.heap.size ≤ k) w' vt' s.tags ∧ Below w.heap.size w w' := by
  obtain ⟨a, c, rfl⟩ := hv.isSlice
  have HV := Lib.hid hv
  clear hv
  unfold spanCells
  go_enter Try.func38, Try.ntmps38
  go_wp2_with (with_reducible refine pause_append ?_)
  refine list_gen fun W1 hW1 => ?_
  have HW1 : Hid (Below w.heap.size w W1) := by rw [hW1]; exact (((Below.refl _ _).alloc (Nat.le_refl _) _).alloc (by simp) _).alloc (by simp; omega) _
  have HA1 : Hid (Blk W1 w.heap.size (spanCells s (.slice a s.tags.length c)).toArray 35) := by rw [hW1]; exact ((Blk.at_new rfl rfl).alloc _).alloc _
  have HB1 : Hid (∃ cs, Blk W1 (w.heap.size + 1) cs 35 ∧ cs.size = 11) := by rw [hW1]; exact ⟨_, (Blk.at_new (by simp) rfl).alloc _, rfl⟩
  have HO1 : Hid (ROwned tagK (w.heap.size + 1 + 1) 73 W1 (.slice (some ⟨w.heap.size + 1 + 1, 0, none⟩) 0 0) []) := by
    rw [hW1]
    exact rowned_lit_at tagK _ (by simp)
  have HZ1 : Hid (w.heap.size + 1 + 1 ≤ W1.heap.size) := by rw [hW1]; show _ ≤ _; simp
  clear hW1
  obtain ⟨cs0, g1, g2⟩ := HV.out.below HW1.out
  refine Pause.go (wpList_append_els (K := tagK) 33 73 _ 32 Try.underlying33 info_tag rfl (w.heap.size + 1 + 1) _ _ _ s.tags rfl _ _ rfl rfl rfl HO1.out cs0 F g1 (tagEls g2) (by simp [maxLen]; omega) (by simp; omega) HZ1.out ?_)
  intro v2 w2 ho hg
  obtain ⟨a2, c2, rfl⟩ := ho.isSlice
  have hb : Below (w.heap.size + 1 + 1) W1 w2 := hg.below HZ1.out (fun k e => (HO1.out.lt k e).1)
  have HR2 : Hid (Rw tagK (fun k => w.heap.size + 1 + 1 ≤ k) w2 (.slice a2 s.tags.length c2) s.tags) := ho.rows
  have HW2 : Hid (Below w.heap.size w w2) := HW1.out.trans (hb.mono (by omega))
  have HA2 : Hid (Blk w2 w.heap.size (spanCells s (.slice a s.tags.length c)).toArray 35) := HA1.out.below hb (by omega)
  have HB2 : Hid (∃ cs, Blk w2 (w.heap.size + 1) cs 35 ∧ cs.size = 11) := by obtain ⟨cs, h1, h2⟩ := HB1.out; exact ⟨cs, h1.below hb (by omega), h2⟩
  have HS2 : Hid (w.heap.size + 1 < w.heap.size + 1 + 1) := Nat.lt_succ_self _
  clear ho hg hb HW1 HA1 HB1 HO1 HZ1 g1 g2
  have k10 : w2.cell? ⟨w.heap.size, 10, none⟩ = some (.slice a s.tags.length c) := HA2.out.cell rfl
  have f10 := HA2.out.free 10
  go_wp2_with (with_reducible refine pause_load ?_)
  refine list_gen fun W3 hW3 => ?_
  have HA3 : Hid (Blk W3 w.heap.size (spanCells s (.slice a2 s.tags.length c2)).toArray 35) := by rw [hW3]; exact HA2.out.set 10 _
  have HB3 : Hid (∃ cs, Blk W3 (w.heap.size + 1) cs 35 ∧ cs.size = 11) := by obtain ⟨cs, h1, h2⟩ := HB2.out; rw [hW3]; exact ⟨cs, h1.set_other _ _ (by simp), h2⟩
  have HW3 : Hid (Below w.heap.size w W3) := by rw [hW3]; exact HW2.out.setCell (by exact Nat.le_refl _) _
  have HR3 : Hid (Rw tagK (fun k => w.heap.size + 1 + 1 ≤ k) W3 (.slice a2 s.tags.length c2) s.tags) := by
    rw [hW3]
    refine HR2.out.keep fun k hk hF => ?_
    exact heap_setCell_other _ _ _ _ (by show k ≠ w.heap.size; omega)
  clear hW3 HA2 HB2 HW2 HR2 k10 f10
  obtain ⟨cs, hc1, hc2⟩ := HB3.out
  have HC3 := Lib.hid hc1
  clear hc1 HB3
  refine Pause.go (wpList_load_agg rfl 35 _ rfl ⟨w.heap.size, 0, none⟩ rfl (spanCells s (.slice a2 s.tags.length c2)) _ (fun j v hj => by rw [add_plain']; exact HA3.out.cell (by simpa using hj)) Try.underlying35 rfl (by kernel_rfl) ?_)
  go_wp2_with (with_reducible refine pause_store ?_)
  refine Pause.go (wpList_store_agg rfl _ _ _ rfl (w.heap.size + 1) 0 rfl _ rfl _ _ HC3.out (by kernel_rfl) (by rw [hc2]; exact Nat.le_refl _) (spanCells_one s rfl) ?_)
  rw [over_all cs _ (by rw [hc2]; rfl)]
  refine list_gen fun W4 hW4 => ?_
  have HC4 : Hid (Blk W4 (w.heap.size + 1) (spanCells s (.slice a2 s.tags.length c2)).toArray 35) := by rw [hW4]; exact HC3.out.row _
  have HR4 : Hid (Rw tagK (fun k => w.heap.size ≤ k) W4 (.slice a2 s.tags.length c2) s.tags) := by
    rw [hW4]
    refine (HR3.out.keep fun k hk hF => ?_).mono fun k _ hF => ?_
    · exact setRow_other W3 (w.heap.size + 1) k _ (by omega)
    · have := HS2.out; omega
  have HW4 : Hid (Below w.heap.size w W4) := by rw [hW4]; exact below_setRow HW3.out (Nat.le_succ _) _
  clear hW4
  go_wp2_with fail
  refine bodyPost_ret (results_cell1 (p := 2) rfl _ _ (w.heap.size + 1) 35 (spanCells s (.slice a2 s.tags.length c2)).toArray _ rfl HC4.out Try.underlying35 rfl (by kernel_rfl)) rfl ?_
  exact ⟨_, rfl, HR4.out, HW4.out⟩

end Go.Proofs.Ytiofhmlmimbngaa
