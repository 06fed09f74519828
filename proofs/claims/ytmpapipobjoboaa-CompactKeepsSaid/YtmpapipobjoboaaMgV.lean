/- Merge: are entries a row? -/
import Derived.Test.YtmpapipobjoboaaMgGb
namespace Go.Proofs.Ytmpapipobjoboaa
open Go.RowKit

def eat (l : List Ent) (i : Nat) : Ent := l.getD i ⟨[], 0, 0, []⟩
theorem eat_eq {l : List Ent} {i : Nat} (h : i < l.length) : l[i] = eat l i := by simp [eat, h]
def RowTo (l : List Ent) (k : Nat) : Prop := ∀ i, i + 1 < k → Ent.cmp (eat l i) (eat l (i + 1)) < 0
open Classical in
/-- Are entries in order, none twice? -/
noncomputable def rowB (l : List Ent) : Bool := decide (RowTo l l.length)
noncomputable def chkE (l : List Ent) : Int := if rowB l = true then 0 else 2
theorem rowB_true {l : List Ent} (h : RowTo l l.length) : rowB l = true := by unfold rowB; classical exact decide_eq_true h
theorem rowB_false {l : List Ent} {j : Nat} (h : j + 1 < l.length) (hc : ¬ Ent.cmp (eat l j) (eat l (j + 1)) < 0) : rowB l = false := by unfold rowB; classical exact decide_eq_false fun e => hc (e j h)
theorem rowB_iff {l : List Ent} : rowB l = true ↔ RowTo l l.length := by unfold rowB; simp
theorem RowTo.snoc {l : List Ent} {k : Nat} (h : RowTo l (k + 1)) (hc : Ent.cmp (eat l k) (eat l (k + 1)) < 0) : RowTo l (k + 1 + 1) := fun i hi => by
  by_cases e : i = k
  · subst e; exact hc
  · exact h i (by omega)
theorem RowTo.sorted : ∀ {l : List Ent}, RowTo l l.length → Sorted l
  | [], _ => List.Pairwise.nil
  | x :: l, h => by
    have ih : Sorted l := RowTo.sorted fun i hi => h (i + 1) (by simpa using hi)
    refine List.pairwise_cons.2 ⟨fun y hy => ?_, ih⟩
    cases l with
    | nil => cases hy
    | cons z r =>
      have h0 : Ent.cmp x z < 0 := h 0 (by simp)
      rcases List.mem_cons.1 hy with rfl | hy
      · exact h0
      · have := (List.pairwise_cons.1 ih).1 y hy
        exact ecmp_lt_le h0 (by omega)
theorem Sorted.rowTo : ∀ {l : List Ent}, Sorted l → RowTo l l.length
  | [], _, i, hi => by simp at hi
  | x :: l, h, i, hi => by
    obtain ⟨h1, h2⟩ := List.pairwise_cons.1 h
    cases i with
    | zero =>
      cases l with
      | nil => simp at hi
      | cons z r => exact h1 z (List.mem_cons_self ..)
    | succ i => exact Sorted.rowTo (l := l) h2 i (by simpa using hi)
theorem rowB_sorted {l : List Ent} : rowB l = true ↔ Sorted l := rowB_iff.trans ⟨RowTo.sorted, Sorted.rowTo⟩

set_option maxRecDepth 100000 in
set_option maxHeartbeats 1000000 in
theorem mcheck_any (F : Nat → Prop) (v : Value) (l : List Ent) (w : World) (h : Rw entK F w v l) (hfew : l.length ≤ 1000000) :
    Calls Try.prog 27 #[v] w fun x w' => x = .returned (.int .i64 (chkE l)) ∧ Below w.heap.size w w' := by
  obtain ⟨xa, ca, rfl⟩ := h.isSlice
  have HA := Lib.hid h
  clear h
  obtain ⟨n, hn⟩ : ∃ n, l.length = n := ⟨_, rfl⟩
  have HN := Lib.hid hn
  rw [hn] at HA hfew
  rw [hn]
  clear hn
  go_enter Try.func27, Try.ntmps27
  go_wp2_with fail
  go_loopw [3] (fun iv wr => ∃ (j : Nat), iv = .int .i64 ((j : Int) + 1) ∧ j ≤ 1000000 ∧ Hid (RowTo l (j + 1)) ∧ Hid (Below w.heap.size w wr)) (fun iv _ => 1000002 - (intOf iv).toNat)
  case atStart => exact ⟨0, rfl, by omega, fun i hi => by omega, Below.refl _ _⟩
  case round =>
    obtain ⟨j, rfl, hj, HR, HB⟩ := hrel
    by_cases hlt : j + 1 < n
    · have t1 : (j : Int) + 1 < (n : Int) := by omega
      have t2 : (j : Int) < (n : Int) := by omega
      have t3 : 0 ≤ (j : Int) := by omega
      have t4 : 0 ≤ (j : Int) + 1 := by omega
      have t5 : IntKind.i64.wrap ((j : Int) + 1 - 1) = (j : Int) := by rw [wrap_small (by omega) (by omega)]; omega
      have t7 : IntKind.i64.wrap (j : Int) = (j : Int) := wrap_small (by omega) (by omega)
      have t6 : ((j : Int) + 1).toNat = j + 1 := by omega
      have hl1 : j < l.length := by rw [HN.out]; omega
      have hl2 : j + 1 < l.length := by rw [HN.out]; omega
      obtain ⟨ba, oa, capa, ea, _, hba, hca⟩ := ents_at (HA.out.below HB.out) (by omega)
      obtain ⟨k1, v1, hk1, hv1, hc1⟩ := hca j hl1
      obtain ⟨k2, v2, hk2, hv2, hc2⟩ := hca (j + 1) hl2
      injection ea with e1 e2 e3
      subst e1 e3
      clear e2
      rw [eat_eq hl1] at hk1 hv1 hc1
      rw [eat_eq hl2] at hk2 hv2 hc2
      obtain ⟨k1a, k1c, rfl⟩ := hk1.isSlice
      obtain ⟨v1a, v1c, rfl⟩ := hv1.isSlice
      obtain ⟨k2a, k2c, rfl⟩ := hk2.isSlice
      obtain ⟨v2a, v2c, rfl⟩ := hv2.isSlice
      have HK1 := Lib.hid (hk1.below (below_drew (Below.refl _ _)))
      have HK2 := Lib.hid (hk2.below (below_drew (Below.refl _ _)))
      have HC1 : Hid (C4o ba (oa + j * 4) (eat l j) (.slice k1a (eat l j).key.length k1c) (.slice v1a (eat l j).value.length v1c) wr.drew) := hc1
      have HC2 : Hid (C4o ba (oa + (j + 1) * 4) (eat l (j + 1)) (.slice k2a (eat l (j + 1)).key.length k2c) (.slice v2a (eat l (j + 1)).value.length v2c) wr.drew) := hc2
      have HZ1 : Hid (ba < wr.drew.heap.size) := hba
      obtain ⟨c, hcc⟩ : ∃ c, Ent.cmp (eat l j) (eat l (j + 1)) = c := ⟨_, rfl⟩
      have HC := Lib.hid hcc
      have HCC := Lib.hid hcc
      have HL := Lib.hid hl2
      clear hca hk1 hv1 hk2 hv2 hc1 hc2 hba hcc hl1 hl2 hlt
      generalize eat l j = s at HC HK1 HC1
      generalize eat l (j + 1) = t at HC HK2 HC2
      go_wp2_with fail
      go_region_held3 (fun w' => (w'.cell? ⟨ba, oa + j * 4, none⟩ = some (.slice k1a s.key.length k1c) ∧ w'.cell? ⟨ba, oa + j * 4 + 1, none⟩ = some (.int .u64 s.seq) ∧ w'.cell? ⟨ba, oa + j * 4 + 2, none⟩ = some (.int .i64 s.kind) ∧ w'.cell? ⟨ba, oa + j * 4 + 3, none⟩ = some (.slice v1a s.value.length v1c)) ∧ (w'.cell? ⟨ba, oa + (j + 1) * 4, none⟩ = some (.slice k2a t.key.length k2c) ∧ w'.cell? ⟨ba, oa + (j + 1) * 4 + 1, none⟩ = some (.int .u64 t.seq) ∧ w'.cell? ⟨ba, oa + (j + 1) * 4 + 2, none⟩ = some (.int .i64 t.kind) ∧ w'.cell? ⟨ba, oa + (j + 1) * 4 + 3, none⟩ = some (.slice v2a t.value.length v2c)))
        (first | exact ⟨HC1.out, HC2.out⟩ | exact ⟨HC1.out.keep hbx1 HZ1.out, HC2.out.keep hbx1 HZ1.out⟩)
        (first | (go_at_call 59; refine Calls.mono (ecompare_at _ _ s t c HC.out (.slice k1a s.key.length k1c) (.slice v1a s.value.length v1c) (.slice k2a t.key.length k2c) (.slice v2a t.value.length v2c) _ HK1.out HK2.out) ?_; rintro e x1 ⟨rfl, hbx1⟩; skip))
      have HWx : Hid (Below w.heap.size w x1) := HB.out.trans ((below_of_drew hbx1).mono HB.out.size)
      clear hbx1 HC1 HC2 HK1 HK2 t2 t5 t6 t7
      by_cases hc : c < 0
      · go_wp2_with fail
        go_roundw
        · exact ⟨j + 1, by go_num, by omega, HR.out.snoc (by rw [HCC.out]; exact hc), HWx.out⟩
        · simp only [intOf]; omega
      · go_wp2_with fail
        go_ret
        exact ⟨ret_int (by unfold chkE; rw [rowB_false HL.out (by rw [HCC.out]; omega)]; rfl), HWx.out⟩
    · have t1 : ¬ (j : Int) + 1 < (n : Int) := by omega
      go_wp2_with fail
      go_ret
      have h5 : rowB l = true := rowB_true (by rw [HN.out]; exact fun i hi => HR.out i (by omega))
      exact ⟨ret_int (by unfold chkE; rw [h5]; rfl), HB.out⟩

theorem rcompare_at (F G : Nat → Prop) (a b : Ent) (r : Int) (hr : Ent.cmp a b = r) (ka va kb vb : Value) (w : World) (ha : Bytes F w ka a.key) (hb : Bytes G w kb b.key) :
    Calls Try.prog 62 #[.agg (entCells a ka va).toArray, .agg (entCells b kb vb).toArray] w fun e w' => e = .returned (.int .i64 r) ∧ Below w.heap.size w w' := by
  subst hr; exact rcompare_any F G a b ka va kb vb w ha hb

set_option maxRecDepth 100000 in
set_option maxHeartbeats 1000000 in
theorem rrow_any (F : Nat → Prop) (v : Value) (l : List Ent) (w : World) (h : Rw entK F w v l) (hfew : l.length ≤ 1000000) :
    Calls Try.prog 30 #[v] w fun x w' => x = .returned (.bool (rowB l)) ∧ Below w.heap.size w w' := by
  obtain ⟨xa, ca, rfl⟩ := h.isSlice
  have HA := Lib.hid h
  clear h
  obtain ⟨n, hn⟩ : ∃ n, l.length = n := ⟨_, rfl⟩
  have HN := Lib.hid hn
  rw [hn] at HA hfew
  rw [hn]
  clear hn
  go_enter Try.func30, Try.ntmps30
  go_wp2_with fail
  go_loopw [3] (fun iv wr => ∃ (j : Nat), iv = .int .i64 ((j : Int) + 1) ∧ j ≤ 1000000 ∧ Hid (RowTo l (j + 1)) ∧ Hid (Below w.heap.size w wr)) (fun iv _ => 1000002 - (intOf iv).toNat)
  case atStart => exact ⟨0, rfl, by omega, fun i hi => by omega, Below.refl _ _⟩
  case round =>
    obtain ⟨j, rfl, hj, HR, HB⟩ := hrel
    by_cases hlt : j + 1 < n
    · have t1 : (j : Int) + 1 < (n : Int) := by omega
      have t2 : (j : Int) < (n : Int) := by omega
      have t3 : 0 ≤ (j : Int) := by omega
      have t4 : 0 ≤ (j : Int) + 1 := by omega
      have t5 : IntKind.i64.wrap ((j : Int) + 1 - 1) = (j : Int) := by rw [wrap_small (by omega) (by omega)]; omega
      have t7 : IntKind.i64.wrap (j : Int) = (j : Int) := wrap_small (by omega) (by omega)
      have t6 : ((j : Int) + 1).toNat = j + 1 := by omega
      have hl1 : j < l.length := by rw [HN.out]; omega
      have hl2 : j + 1 < l.length := by rw [HN.out]; omega
      obtain ⟨ba, oa, capa, ea, _, hba, hca⟩ := ents_at (HA.out.below HB.out) (by omega)
      obtain ⟨k1, v1, hk1, hv1, hc1⟩ := hca j hl1
      obtain ⟨k2, v2, hk2, hv2, hc2⟩ := hca (j + 1) hl2
      injection ea with e1 e2 e3
      subst e1 e3
      clear e2
      rw [eat_eq hl1] at hk1 hv1 hc1
      rw [eat_eq hl2] at hk2 hv2 hc2
      obtain ⟨k1a, k1c, rfl⟩ := hk1.isSlice
      obtain ⟨v1a, v1c, rfl⟩ := hv1.isSlice
      obtain ⟨k2a, k2c, rfl⟩ := hk2.isSlice
      obtain ⟨v2a, v2c, rfl⟩ := hv2.isSlice
      have HK1 := Lib.hid (hk1.below (below_drew (Below.refl _ _)))
      have HK2 := Lib.hid (hk2.below (below_drew (Below.refl _ _)))
      have HC1 : Hid (C4o ba (oa + j * 4) (eat l j) (.slice k1a (eat l j).key.length k1c) (.slice v1a (eat l j).value.length v1c) wr.drew) := hc1
      have HC2 : Hid (C4o ba (oa + (j + 1) * 4) (eat l (j + 1)) (.slice k2a (eat l (j + 1)).key.length k2c) (.slice v2a (eat l (j + 1)).value.length v2c) wr.drew) := hc2
      have HZ1 : Hid (ba < wr.drew.heap.size) := hba
      obtain ⟨c, hcc⟩ : ∃ c, Ent.cmp (eat l j) (eat l (j + 1)) = c := ⟨_, rfl⟩
      have HC := Lib.hid hcc
      have HCC := Lib.hid hcc
      have HL := Lib.hid hl2
      clear hca hk1 hv1 hk2 hv2 hc1 hc2 hba hcc hl1 hl2 hlt
      generalize eat l j = s at HC HK1 HC1
      generalize eat l (j + 1) = t at HC HK2 HC2
      go_wp2_with fail
      go_region_held3 (fun w' => (w'.cell? ⟨ba, oa + j * 4, none⟩ = some (.slice k1a s.key.length k1c) ∧ w'.cell? ⟨ba, oa + j * 4 + 1, none⟩ = some (.int .u64 s.seq) ∧ w'.cell? ⟨ba, oa + j * 4 + 2, none⟩ = some (.int .i64 s.kind) ∧ w'.cell? ⟨ba, oa + j * 4 + 3, none⟩ = some (.slice v1a s.value.length v1c)) ∧ (w'.cell? ⟨ba, oa + (j + 1) * 4, none⟩ = some (.slice k2a t.key.length k2c) ∧ w'.cell? ⟨ba, oa + (j + 1) * 4 + 1, none⟩ = some (.int .u64 t.seq) ∧ w'.cell? ⟨ba, oa + (j + 1) * 4 + 2, none⟩ = some (.int .i64 t.kind) ∧ w'.cell? ⟨ba, oa + (j + 1) * 4 + 3, none⟩ = some (.slice v2a t.value.length v2c)))
        (first | exact ⟨HC1.out, HC2.out⟩ | exact ⟨HC1.out.keep hbx1 HZ1.out, HC2.out.keep hbx1 HZ1.out⟩)
        (first | (go_at_call 62; refine Calls.mono (rcompare_at _ _ s t c HC.out (.slice k1a s.key.length k1c) (.slice v1a s.value.length v1c) (.slice k2a t.key.length k2c) (.slice v2a t.value.length v2c) _ HK1.out HK2.out) ?_; rintro e x1 ⟨rfl, hbx1⟩; skip))
      have HWx : Hid (Below w.heap.size w x1) := HB.out.trans ((below_of_drew hbx1).mono HB.out.size)
      clear hbx1 HC1 HC2 HK1 HK2 t2 t5 t6 t7
      by_cases hc : c < 0
      · go_wp2_with fail
        go_roundw
        · exact ⟨j + 1, by go_num, by omega, HR.out.snoc (by rw [HCC.out]; exact hc), HWx.out⟩
        · simp only [intOf]; omega
      · go_wp2_with fail
        go_ret
        exact ⟨ret_bool (rowB_false HL.out (by rw [HCC.out]; omega)).symm, HWx.out⟩
    · have t1 : ¬ (j : Int) + 1 < (n : Int) := by omega
      go_wp2_with fail
      go_ret
      have h5 : rowB l = true := rowB_true (by rw [HN.out]; exact fun i hi => HR.out i (by omega))
      exact ⟨ret_bool h5.symm, HB.out⟩

theorem rcheck_any (F : Nat → Prop) (v : Value) (l : List Ent) (w : World) (h : Rw entK F w v l) (hfew : l.length ≤ 1000000) :
    Calls Try.prog 37 #[v] w fun x w' => x = .returned (.int .i64 (chkE l)) ∧ Below w.heap.size w w' := by
  obtain ⟨xa, ca, rfl⟩ := h.isSlice
  have HA := Lib.hid h
  clear h
  unfold chkE
  obtain ⟨b, hb⟩ : ∃ b, rowB l = b := ⟨_, rfl⟩
  rw [hb]
  have HB := Lib.hid hb
  clear hb
  go_enter Try.func37, Try.ntmps37
  go_wp2_with fail
  refine Calls.mono (rrow_any F _ l _ HA.out hfew) ?_
  rintro _ w1 ⟨rfl, hb1⟩
  rw [HB.out]
  have HW1 := Lib.hid hb1
  clear hb1
  cases b with
  | true =>
    go_wp2_with fail
    go_ret
    exact ⟨rfl, HW1.out⟩
  | false =>
    go_wp2_with fail
    go_ret
    exact ⟨rfl, HW1.out⟩
end Go.Proofs.Ytmpapipobjoboaa
