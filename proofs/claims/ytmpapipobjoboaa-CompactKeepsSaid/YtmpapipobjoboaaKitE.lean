/- The statements' own helpers: Bytes, Before, Entry, Entries, Weigh. -/
import Derived.Test.YtmpapipobjoboaaMgBase
import Derived.Deep.QuietTactic
import Derived.Deep.Draws
import Derived.BigQuiet
namespace Go.Proofs.Ytmpapipobjoboaa
open Go.RowKit

theorem drewN_one {w w' : World} (h : ∃ n, w' = w.drewN n) : ∃ n, w'.drew = w.drewN n := by obtain ⟨n, rfl⟩ := h; exact ⟨n + 1, rfl⟩
theorem drewN_more {w w' : World} (h : ∃ n, w' = w.drewN n) (m : Nat) : ∃ n, w'.drewN m = w.drewN n := by obtain ⟨n, rfl⟩ := h; exact ⟨n + m, by simp⟩

theorem take_succ_eq {a b : List UInt8} {j : Nat} (h : a.take j = b.take j) (ha : j < a.length) (hb : j < b.length) (he : a.getD j 0 = b.getD j 0) : a.take (j + 1) = b.take (j + 1) := by
  rw [List.take_succ_eq_append_getElem ha, List.take_succ_eq_append_getElem hb, h]
  simp [List.getD, ha, hb] at he
  rw [he]

theorem kbytes_any (F G : Nat → Prop) (va : Value) (xs : List UInt8) (vb : Value) (ys : List UInt8) (w : World) (ha : Bytes F w va xs) (hb : Bytes G w vb ys) :
    Calls Try.prog 32 #[va, vb] w fun e w' => e = .returned (.bool (decide (xs = ys))) ∧ ∃ n, w' = w.drewN n := by
  obtain ⟨aa, ca, rfl⟩ := ha.isSlice
  obtain ⟨ab, cb, rfl⟩ := hb.isSlice
  have HA := Lib.hid ha
  have HB := Lib.hid hb
  have hml := ha.len
  simp only [maxLen] at hml
  clear ha hb
  by_cases hl : xs.length = ys.length
  · rw [← hl]
    have HB2 : Hid (Bytes G w (Value.slice ab xs.length cb) ys) := by rw [hl]; exact HB.out
    have HL := Lib.hid hl
    clear HB hl
    go_enter Try.func32, Try.ntmps32
    go_wp2_with fail
    go_loopw [5] (fun i wr => ∃ j : Nat, i = .int .i64 j ∧ j ≤ xs.length ∧ Hid (xs.take j = ys.take j) ∧ Hid (∃ n, wr = w.drewN n)) (fun i _ => xs.length - (intOf i).toNat)
    case atStart => exact ⟨0, rfl, by omega, rfl, 0, rfl⟩
    case round =>
      obtain ⟨j, rfl, hj, HE, HW⟩ := hrel
      have hwc : ∀ a, wr.cell? a = w.cell? a := fun a => by obtain ⟨n, h⟩ := HW.out; rw [h]; rfl
      by_cases hlt : j < xs.length
      · obtain ⟨ba, oa, ca', ea, _, _, _, _, hca⟩ := Sl.place HA.out (by rw [u8s_len]; omega)
        obtain ⟨bb, ob, cb', eb, _, _, _, _, hcb⟩ := Sl.place HB2.out (by rw [u8s_len, ← HL.out]; exact Nat.zero_lt_of_lt hlt)
        cases ea
        injection eb with e1 e2 e3
        subst e1 e3
        clear e2
        have ka : wr.cell? ⟨ba, oa + j, none⟩ = some (.int .u8 ((xs.getD j 0).toNat : Int)) := (hwc _).trans <| hca j _ (u8s_get _ _ hlt)
        have kb : wr.cell? ⟨bb, ob + j, none⟩ = some (.int .u8 ((ys.getD j 0).toNat : Int)) := (hwc _).trans <| hcb j _ (u8s_get _ _ (by rw [← HL.out]; exact hlt))
        clear hca hcb hwc
        have hs := take_succ_eq HE.out hlt (by rw [← HL.out]; exact hlt)
        have hxy : ∀ h : xs.getD j 0 ≠ ys.getD j 0, xs ≠ ys := fun h e => h (by rw [e])
        generalize xs.getD j 0 = x at *
        generalize ys.getD j 0 = y at *
        have HS := Lib.hid hs
        have HX := Lib.hid hxy
        clear hs hxy
        by_cases hxy : x = y
        · subst hxy
          go_wp2_with fail
          go_region
          go_wp2_with fail
          go_roundw
          · exact ⟨j + 1, by go_num, by omega, HS.out trivial, (by first | exact HW.out | exact drewN_one HW.out | exact drewN_more HW.out _)⟩
          · simp only [intOf]; omega
        · have hne : ((x.toNat : Int) != (y.toNat : Int)) = true := by
            rw [bne_iff_ne]
            intro h
            exact hxy (UInt8.toNat_inj.1 (by omega))
          have HD : Hid (decide (xs = ys) = false) := by
            show _ = _
            simpa using HX.out hxy
          go_wp2_with fail
          go_quiet (fail)
          all_goals
            go_wp2_with fail
            go_ret
            exact ⟨congrArg (fun b => Ending.returned (.bool b)) HD.out.symm, (by first | exact HW.out | exact drewN_one HW.out | exact drewN_more HW.out _)⟩
      · have HD : Hid (decide (xs = ys) = true) := by
          show _ = _
          have h1 := HE.out
          rw [List.take_of_length_le (by omega), List.take_of_length_le (by rw [← HL.out]; omega)] at h1
          simpa using h1
        go_wp2_with fail
        go_ret
        exact ⟨congrArg (fun b => Ending.returned (.bool b)) HD.out.symm, (by first | exact HW.out | exact drewN_one HW.out | exact drewN_more HW.out _)⟩
  · have he : decide (xs = ys) = false := by simp; intro h; exact hl (by rw [h])
    rw [he]
    have hne : ((xs.length : Int) != (ys.length : Int)) = true := by simp; omega
    go_enter Try.func32, Try.ntmps32
    go_wp2_with fail
    go_ret
    exact ⟨rfl, 0, rfl⟩

theorem kbytes_at {b : Bool} (F G : Nat → Prop) (va : Value) (xs : List UInt8) (vb : Value) (ys : List UInt8) (w : World) (ha : Bytes F w va xs) (hb : Bytes G w vb ys) (h : decide (xs = ys) = b) :
    Calls Try.prog 32 #[va, vb] w fun e w' => e = .returned (.bool b) ∧ ∃ n, w' = w.drewN n := by
  subst h; exact kbytes_any F G va xs vb ys w ha hb


theorem below_drewN {w w' : World} (h : ∃ n, w' = w.drewN n) : Below w.heap.size w w' := by obtain ⟨n, rfl⟩ := h; exact below_dn (Below.refl _ _) n



set_option maxRecDepth 100000 in
theorem kentry_same (F1 F2 G1 G2 : Nat → Prop) (x : Ent) (k1 v1 k2 v2 : Value) (w : World) (h1 : Bytes F1 w k1 x.key) (h2 : Bytes F2 w v1 x.value) (h3 : Bytes G1 w k2 x.key) (h4 : Bytes G2 w v2 x.value) :
    Calls Try.prog 21 #[.agg (entCells x k1 v1).toArray, .agg (entCells x k2 v2).toArray] w fun e w' => e = .returned (.bool true) ∧ Below w.heap.size w w' := by
  obtain ⟨a1, c1, rfl⟩ := h1.isSlice
  obtain ⟨a2, c2, rfl⟩ := h2.isSlice
  obtain ⟨a3, c3, rfl⟩ := h3.isSlice
  obtain ⟨a4, c4, rfl⟩ := h4.isSlice
  have H1 := Lib.hid h1
  have H2 := Lib.hid h2
  have H3 := Lib.hid h3
  have H4 := Lib.hid h4
  clear h1 h2 h3 h4
  unfold entCells
  go_enter Try.func21, Try.ntmps21
  go_upto_region 1 with fail
  refine wp_gen fun w1 hw1 => ?_
  have HW1 : Hid (Below w.heap.size w w1) := by rw [hw1]; exact below_two _ _ _
  have HA : Hid (Blk w1 w.heap.size (entCells x (.slice a1 x.key.length c1) (.slice a2 x.value.length c2)).toArray 29) := by rw [hw1]; exact (Blk.at_new rfl rfl).alloc _
  have HB : Hid (Blk w1 (w.heap.size + 1) (entCells x (.slice a3 x.key.length c3) (.slice a4 x.value.length c4)).toArray 29) := by rw [hw1]; exact Blk.at_new (by simp) rfl
  clear hw1
  have p0 : w1.cell? ⟨w.heap.size, 0, none⟩ = some (.slice a1 x.key.length c1) := HA.out.cell rfl
  have p1 : w1.cell? ⟨w.heap.size, 1, none⟩ = some (.int .u64 x.seq) := HA.out.cell rfl
  have p2 : w1.cell? ⟨w.heap.size, 2, none⟩ = some (.int .i64 x.kind) := HA.out.cell rfl
  have q0 : w1.cell? ⟨w.heap.size + 1, 0, none⟩ = some (.slice a3 x.key.length c3) := HB.out.cell rfl
  have q1 : w1.cell? ⟨w.heap.size + 1, 1, none⟩ = some (.int .u64 x.seq) := HB.out.cell rfl
  have q2 : w1.cell? ⟨w.heap.size + 1, 2, none⟩ = some (.int .i64 x.kind) := HB.out.cell rfl
  go_wp2_with fail
  refine Calls.mono (kbytes_at _ _ _ x.key _ x.key _ (H1.out.below HW1.out) (H3.out.below HW1.out) (decide_eq_true rfl)) ?_
  rintro _ w2 ⟨rfl, hn⟩
  have hb2 := below_drewN hn
  have HW2 : Hid (Below w.heap.size w w2) := HW1.out.trans (hb2.mono HW1.out.size)
  have p3 : w2.cell? ⟨w.heap.size, 3, none⟩ = some (.slice a2 x.value.length c2) := (HA.out.below hb2 HA.out.lt).cell rfl
  have q3 : w2.cell? ⟨w.heap.size + 1, 3, none⟩ = some (.slice a4 x.value.length c4) := (HB.out.below hb2 HB.out.lt).cell rfl
  clear hn hb2 p0 p1 p2 q0 q1 q2
  go_wp2_with fail
  refine Calls.mono (kbytes_at _ _ _ x.value _ x.value _ (H2.out.below HW2.out) (H4.out.below HW2.out) (decide_eq_true rfl)) ?_
  rintro _ w3 ⟨rfl, hn⟩
  have HW3 : Hid (Below w.heap.size w w3) := HW2.out.trans ((below_drewN hn).mono HW2.out.size)
  clear hn p3 q3
  go_wp2_with fail
  go_ret
  exact ⟨rfl, HW3.out⟩

/-- The cells of an entry in a row. -/
def C4o (b o : Nat) (e : Ent) (vk vv : Value) (w : World) : Prop :=
  w.cell? ⟨b, o, none⟩ = some vk ∧ w.cell? ⟨b, o + 1, none⟩ = some (.int .u64 e.seq) ∧ w.cell? ⟨b, o + 2, none⟩ = some (.int .i64 e.kind) ∧ w.cell? ⟨b, o + 3, none⟩ = some vv
theorem C4o.keep {B b o : Nat} {e : Ent} {k v : Value} {w w' : World} (h : C4o b o e k v w) (hb : Below B w w') (hz : b < B) : C4o b o e k v w' := by
  have e1 : ∀ i, w'.cell? ⟨b, i, none⟩ = w.cell? ⟨b, i, none⟩ := fun i => World.cell?_of_block (hb.block b hz)
  unfold C4o at *
  simp only [e1]
  exact h

set_option maxRecDepth 100000 in
set_option maxHeartbeats 2000000 in
theorem kentries_same (F G : Nat → Prop) (va vb : Value) (l : List Ent) (w : World) (ha : Rw entK F w va l) (hb : Rw entK G w vb l) :
    Calls Try.prog 33 #[va, vb] w fun e w' => e = .returned (.bool true) ∧ Below w.heap.size w w' := by
  obtain ⟨xa, ca, rfl⟩ := ha.isSlice
  obtain ⟨xb, cb, rfl⟩ := hb.isSlice
  have hml := ha.len
  simp only [maxLen] at hml
  have HA := Lib.hid ha
  have HB := Lib.hid hb
  clear ha hb
  go_enter Try.func33, Try.ntmps33
  go_wp2_with fail
  go_loopw [5] (fun i wr => ∃ j : Nat, i = .int .i64 (j : Int) ∧ j ≤ l.length ∧ Hid (Below w.heap.size w wr)) (fun i _ => l.length - (intOf i).toNat)
  case atStart => exact ⟨0, rfl, by omega, Below.refl _ _⟩
  case round =>
    obtain ⟨j, rfl, hj, HW⟩ := hrel
    by_cases hlt : j < l.length
    · have hjl : (j : Int) < (l.length : Int) := by omega
      obtain ⟨ba, oa, capa, ea, _, hba, hca⟩ := ents_at (HA.out.below HW.out) (by omega)
      obtain ⟨bb, ob, capb, eb, _, hbb, hcb⟩ := ents_at (HB.out.below HW.out) (by omega)
      injection ea with e1 e2 e3
      injection eb with e4 e5 e6
      subst e1 e3 e4 e6
      clear e2 e5
      obtain ⟨k1, v1, hk1, hv1, hc1⟩ := hca j hlt
      obtain ⟨k1a, k1c, rfl⟩ := hk1.isSlice
      obtain ⟨v1a, v1c, rfl⟩ := hv1.isSlice
      obtain ⟨k2, v2, hk2, hv2, hc2⟩ := hcb j hlt
      obtain ⟨k2a, k2c, rfl⟩ := hk2.isSlice
      obtain ⟨v2a, v2c, rfl⟩ := hv2.isSlice
      have HK1 := Lib.hid (hk1.below (below_drew (Below.refl _ _)))
      have HV1 := Lib.hid (hv1.below (below_drew (Below.refl _ _)))
      have HK2 := Lib.hid (hk2.below (below_drew (Below.refl _ _)))
      have HV2 := Lib.hid (hv2.below (below_drew (Below.refl _ _)))
      have HC1 : Hid (C4o ba (oa + j * 4) l[j] (.slice k1a l[j].key.length k1c) (.slice v1a l[j].value.length v1c) wr.drew) := hc1
      have HC2 : Hid (C4o bb (ob + j * 4) l[j] (.slice k2a l[j].key.length k2c) (.slice v2a l[j].value.length v2c) wr.drew) := hc2
      have HZ1 : Hid (ba < wr.drew.heap.size) := hba
      have HZ2 : Hid (bb < wr.drew.heap.size) := hbb
      clear hca hcb hk1 hv1 hk2 hv2 hc1 hc2 hba hbb
      generalize l[j] = s at *
      go_wp2_with fail
      go_region_held3 (fun w' => (w'.cell? ⟨ba, oa + j * 4, none⟩ = some (.slice k1a s.key.length k1c) ∧ w'.cell? ⟨ba, oa + j * 4 + 1, none⟩ = some (.int .u64 s.seq) ∧ w'.cell? ⟨ba, oa + j * 4 + 2, none⟩ = some (.int .i64 s.kind) ∧ w'.cell? ⟨ba, oa + j * 4 + 3, none⟩ = some (.slice v1a s.value.length v1c)) ∧ (w'.cell? ⟨bb, ob + j * 4, none⟩ = some (.slice k2a s.key.length k2c) ∧ w'.cell? ⟨bb, ob + j * 4 + 1, none⟩ = some (.int .u64 s.seq) ∧ w'.cell? ⟨bb, ob + j * 4 + 2, none⟩ = some (.int .i64 s.kind) ∧ w'.cell? ⟨bb, ob + j * 4 + 3, none⟩ = some (.slice v2a s.value.length v2c)))
        (first | exact ⟨HC1.out, HC2.out⟩ | exact ⟨HC1.out.keep hbx1 HZ1.out, HC2.out.keep hbx1 HZ2.out⟩)
        (first | (go_at_call 21; refine Calls.mono (kentry_same _ _ _ _ s (.slice k1a s.key.length k1c) (.slice v1a s.value.length v1c) (.slice k2a s.key.length k2c) (.slice v2a s.value.length v2c) _ HK1.out HV1.out HK2.out HV2.out) ?_; rintro e x1 ⟨rfl, hbx1⟩; skip))
      have HWx : Hid (Below w.heap.size w x1) := HW.out.trans ((below_of_drew hbx1).mono HW.out.size)
      clear hbx1 HC1 HC2
      go_wp2_with fail
      go_roundw
      · exact ⟨j + 1, by go_num, by omega, HWx⟩
      · simp only [intOf]; omega
    · have hjl : decide ((j : Int) < (l.length : Int)) = false := by simp; omega
      go_wp2_with fail
      go_ret
      exact ⟨rfl, HW.out⟩

/-- How many bytes some entries have. -/
def weighE (l : List Ent) : Nat := (l.map fun e => e.key.length + e.value.length).sum

theorem weigh_le {B : Nat} {l : List Ent} (h : ∀ e ∈ l, e.key.length ≤ B ∧ e.value.length ≤ B) : weighE l ≤ l.length * (2 * B) := by
  induction l with
  | nil => exact Nat.zero_le _
  | cons x l ih =>
    have h1 := h x (List.mem_cons_self ..)
    have h2 := ih fun e he => h e (List.mem_cons_of_mem _ he)
    unfold weighE at *
    rw [List.map_cons, List.sum_cons, List.length_cons, Nat.add_mul]
    omega
theorem weigh_take {l : List Ent} {j : Nat} (hj : j < l.length) : weighE (l.take (j + 1)) = weighE (l.take j) + (l[j].key.length + l[j].value.length) := by
  unfold weighE
  rw [List.take_succ_eq_append_getElem hj, List.map_append, List.sum_append]
  simp
theorem weigh_take_le (l : List Ent) (j : Nat) : weighE (l.take j) ≤ weighE l := by
  have h : weighE l = weighE (l.take j) + weighE (l.drop j) := by
    unfold weighE
    rw [← List.sum_append, ← List.map_append, List.take_append_drop]
  omega

set_option maxRecDepth 100000 in
set_option maxHeartbeats 1000000 in
theorem kweigh_any (F : Nat → Prop) (v : Value) (l : List Ent) (w : World) (h : Rw entK F w v l) (hl : l.length ≤ 1000) (hall : ∀ e ∈ l, e.key.length ≤ 140737488355328 ∧ e.value.length ≤ 140737488355328) :
    Calls Try.prog 28 #[v] w fun e w' => e = .returned (.int .i64 (weighE l : Int)) ∧ ∃ n, w' = w.drewN n := by
  obtain ⟨xa, ca, rfl⟩ := h.isSlice
  have HA := Lib.hid h
  have hwl : weighE l ≤ 1000000000000000000 := by
    have h1 := weigh_le hall
    have h2 : l.length * (2 * 140737488355328) ≤ 1000 * (2 * 140737488355328) := Nat.mul_le_mul_right _ hl
    omega
  have HWL := Lib.hid hwl
  clear h hall hwl
  go_enter Try.func28, Try.ntmps28
  go_wp2_with fail
  go_loopw [3, 4] (fun s i wr => ∃ (j c : Nat), i = .int .i64 (j : Int) ∧ j ≤ l.length ∧ s = .int .i64 (c : Int) ∧ Hid (c = weighE (l.take j)) ∧ Hid (∃ n, wr = w.drewN n)) (fun _ i _ => l.length - (intOf i).toNat)
  case atStart => exact ⟨0, 0, rfl, by omega, rfl, rfl, 0, rfl⟩
  case round =>
    obtain ⟨j, c, rfl, hj, rfl, HC, HW⟩ := hrel
    by_cases hlt : j < l.length
    · have hjl : (j : Int) < (l.length : Int) := by omega
      have hwc : ∀ a, wr.cell? a = w.cell? a := fun a => by obtain ⟨n, h⟩ := HW.out; rw [h]; rfl
      obtain ⟨ba, oa, capa, ea, _, hba, hca⟩ := ents_at HA.out (by omega)
      injection ea with e1 e2 e3
      subst e1 e3
      clear e2
      obtain ⟨k1, v1, hk1, hv1, c0, _, _, c3⟩ := hca j hlt
      obtain ⟨k1a, k1c, rfl⟩ := hk1.isSlice
      obtain ⟨v1a, v1c, rfl⟩ := hv1.isSlice
      have c0 := (hwc _).trans c0
      have c3 := (hwc _).trans c3
      have HC2 := weigh_take hlt
      have hb1 := weigh_take_le l (j + 1)
      rw [HC2, ← HC.out] at hb1
      have hb2 := HWL.out
      have HCn : Hid (c + (l[j].key.length + l[j].value.length) = weighE (l.take (j + 1))) := by rw [HC.out]; exact HC2.symm
      clear hwc hca hk1 hv1 HC2
      generalize l[j] = s at *
      generalize hx : s.key.length = x at *
      generalize hy : s.value.length = y at *
      have hxy : c + (x + y) ≤ 1000000000000000000 := by omega
      clear hb1 hb2 hx hy
      go_wp2_with fail
      go_quiet (fail)
      all_goals
        go_wp2_with fail
        go_roundw
        · exact ⟨j + 1, c + (x + y), by go_num, by omega, int_eq (by omega), HCn, (by first | exact HW.out | exact drewN_one HW.out | exact drewN_more HW.out _)⟩
        · simp only [intOf]; omega
    · have hjl : decide ((j : Int) < (l.length : Int)) = false := by simp; omega
      have HF : Hid (c = weighE l) := by have := HC.out; rwa [List.take_of_length_le (by omega)] at this
      go_wp2_with fail
      go_ret
      exact ⟨congrArg (fun n : Nat => Ending.returned (.int .i64 (n : Int))) HF.out, HW.out⟩

end Go.Proofs.Ytmpapipobjoboaa
