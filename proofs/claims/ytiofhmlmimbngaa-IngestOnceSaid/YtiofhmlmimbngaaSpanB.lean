/- span.long, span.Check. -/
import Derived.Test.YtiofhmlmimbngaaSpan
import Derived.Deep.CutRange
import Derived.Deep.DeepCutAuto
namespace Go.Proofs.Ytiofhmlmimbngaa
open Go.RowKit

theorem gt_of {n : Nat} (k : Nat) (h : k < n) : (k : Int) < (n : Int) := by omega
set_option maxRecDepth 100000 in
theorem long_any (F : Nat → Prop) (s : Sp.T) (vt : Value) (w : World) (hv : Rw tagK F w vt s.tags) :
    Calls Try.prog 41 #[.agg (spanCells s vt).toArray] w fun e w' => e = .returned (.bool (Sp.long s)) ∧ Below w.heap.size w w' := by
  obtain ⟨a, c, rfl⟩ := hv.isSlice
  have HV := Lib.hid hv
  clear hv
  unfold spanCells
  have hb : Below w.heap.size w (w.alloc (.cells #[.int .u64 s.hi, .int .u64 s.lo, .int .u64 s.id, .int .u64 s.parent, .string s.service, .string s.name, .int .i64 s.kind, .int .i64 s.start, .int .i64 s.length, .bool s.fails, .slice a s.tags.length c] 35)) := (Below.refl _ _).alloc (Nat.le_refl _) _
  have hl0 : Sp.long s = (decide (128 < s.service.size) || decide (128 < s.name.size) || decide (16 < s.tags.length) || s.tags.any Sp.longTag) := rfl
  by_cases h1 : 128 < s.service.size
  · have h1' : (128 : Int) < (s.service.size : Int) := by omega
    have hl : Sp.long s = true := by rw [hl0]; simp [h1]
    go_enter Try.func41, Try.ntmps41
    go_wp2_with fail
    go_ret
    exact ⟨ret_bool hl.symm, hb⟩
  have h1' : decide ((128 : Int) < (s.service.size : Int)) = false := by simp; omega
  by_cases h2 : 128 < s.name.size
  · have h2' : (128 : Int) < (s.name.size : Int) := by omega
    have hl : Sp.long s = true := by rw [hl0]; simp [h2]
    go_enter Try.func41, Try.ntmps41
    go_wp2_with fail
    go_ret
    exact ⟨ret_bool hl.symm, hb⟩
  have h2' : decide ((128 : Int) < (s.name.size : Int)) = false := by simp; omega
  by_cases h3 : 16 < s.tags.length
  · have h3' : (16 : Int) < (s.tags.length : Int) := by omega
    have hl : Sp.long s = true := by rw [hl0]; simp [h3]
    go_enter Try.func41, Try.ntmps41
    go_wp2_with fail
    go_ret
    exact ⟨ret_bool hl.symm, hb⟩
  have h3' : decide ((16 : Int) < (s.tags.length : Int)) = false := by simp; omega
  have HL : Hid (Sp.long s = s.tags.any Sp.longTag) := by show _ = _; rw [hl0]; simp [h1, h2, h3]
  clear hl0
  have HB := Lib.hid hb
  clear hb
  go_enter Try.func41, Try.ntmps41
  go_wp2_with fail
  refine Calls.mono (containsFunc_any F _ s.tags _ (HV.out.below HB.out)) ?_
  rintro e w1 ⟨rfl, hb1⟩
  have HW : Hid (Below w.heap.size w w1) := HB.out.trans (hb1.mono HB.out.size)
  clear hb1
  go_wp2_with fail
  go_ret
  exact ⟨ret_bool HL.out.symm, HW.out⟩

theorem wrap_pred (j : Nat) (h0 : 0 < j) (h1 : j ≤ 9223372036854775807) : IntKind.i64.wrap ((j : Int) - 1) = (j : Int) - 1 := by
  have : IntKind.i64.wrap ((j : Int) - 1) = RowKit.wrap64 ((j : Int) - 1) := by unfold RowKit.wrap64; simp [IntKind.wrap, IntKind.signed, IntKind.bits]; omega
  rw [this]; unfold RowKit.wrap64; omega
theorem below_dn {B : Nat} {w w' : World} (h : Below B w w') (n : Nat) : Below B w (w'.drewN n) := ⟨h.os, h.tape, h.output, h.size, h.block⟩
theorem name_at {s : ByteArray} {b : Bool} (h : Sp.name s = b) (w : World) : Calls Try.prog 42 #[.string s] w fun e w' => e = .returned (.bool b) ∧ ∃ n, w' = w.drewN n := by
  subst h; exact (name_any s w).mono fun e w' h => ⟨h.1, 0, h.2⟩
theorem text_at {s : ByteArray} {b : Bool} (h : Sp.text s = b) (w : World) : Calls Try.prog 43 #[.string s] w fun e w' => e = .returned (.bool b) ∧ ∃ n, w' = w.drewN n := by
  subst h; exact (text_any s w).mono fun e w' h => ⟨h.1, 0, h.2⟩

theorem fine_no {s : Sp.T} (h : (s.hi = 0 ∧ s.lo = 0) ∨ s.id = 0 ∨ s.kind < 0 ∨ 5 < s.kind ∨ s.start < 0 ∨ s.length < 0 ∨ 4611686018427387903 < s.start ∨ 4611686018427387903 - s.start < s.length) : Sp.fine0 s = false := by
  unfold Sp.fine0
  rcases h with ⟨h1, h2⟩ | h | h | h | h | h | h | h <;> simp_all
  all_goals intros; omega
theorem fine_yes {s : Sp.T} (h1 : Sp.name s.service = true) (h2 : Sp.name s.name = true) (h : ¬(s.hi = 0 ∧ s.lo = 0) ∧ s.id ≠ 0 ∧ 0 ≤ s.kind ∧ s.kind ≤ 5 ∧ 0 ≤ s.start ∧ 0 ≤ s.length ∧ s.start ≤ 4611686018427387903 ∧ s.length ≤ 4611686018427387903 - s.start) : Sp.fine0 s = true := by
  unfold Sp.fine0
  rw [h1, h2]
  simp only [Bool.and_true, Bool.and_eq_true, Bool.not_eq_true', decide_eq_true_eq, decide_eq_false_iff_not, Bool.and_eq_false_imp]
  obtain ⟨g1, g2, g3, g4, g5, g6, g7, g8⟩ := h
  exact ⟨⟨⟨⟨⟨⟨⟨fun e e' => g1 ⟨e, e'⟩, g2⟩, g3⟩, g4⟩, g5⟩, g6⟩, g7⟩, g8⟩
theorem fine_last {s : Sp.T} (h1 : Sp.name s.service = true) (h2 : Sp.name s.name = true) (h : ¬(s.hi = 0 ∧ s.lo = 0) ∧ s.id ≠ 0 ∧ 0 ≤ s.kind ∧ s.kind ≤ 5 ∧ 0 ≤ s.start ∧ 0 ≤ s.length ∧ s.start ≤ 4611686018427387903) : decide (s.length ≤ 4611686018427387903 - s.start) = Sp.fine0 s := by
  by_cases hh : s.length ≤ 4611686018427387903 - s.start
  · rw [decide_eq_true hh, fine_yes h1 h2 (by omega)]
  · rw [decide_eq_false hh, fine_no (by omega)]

set_option maxRecDepth 100000 in
set_option maxHeartbeats 1000000 in
theorem check_fine (F : Nat → Prop) (s : Sp.T) (vt : Value) (w : World) (hv : Rw tagK F w vt s.tags) (hl : Sp.long s = false) :
    Calls Try.prog 34 #[.agg (spanCells s vt).toArray] w fun e w' => e = .returned (.int .i64 (Sp.check s : Int)) ∧ Below w.heap.size w w' := by
  obtain ⟨a, c, rfl⟩ := hv.isSlice
  have HV := Lib.hid hv
  clear hv
  have HW0 : Hid (Below w.heap.size w (w.alloc (.cells (spanCells s (.slice a s.tags.length c)).toArray 35))) := (Below.refl _ _).alloc (Nat.le_refl _) _
  unfold spanCells at HW0 ⊢
  go_enter Try.func34, Try.ntmps34
  go_wp2_with fail
  refine Calls.mono (long_any F s (.slice a s.tags.length c) _ (HV.out.below HW0.out)) ?_
  rw [hl]
  rintro e w1 ⟨rfl, hb1⟩
  have HW1 : Hid (Below w.heap.size w w1) := HW0.out.trans (hb1.mono HW0.out.size)
  have HK1 : Hid (Blk w1 w.heap.size (spanCells s (.slice a s.tags.length c)).toArray 35) := (Blk.at_new rfl rfl).below hb1 (by simp)
  clear hb1 HW0
  have k0 : w1.cell? ⟨w.heap.size, 0, none⟩ = some (.int .u64 s.hi) := HK1.out.cell rfl
  have k1 : w1.cell? ⟨w.heap.size, 1, none⟩ = some (.int .u64 s.lo) := HK1.out.cell rfl
  have k2 : w1.cell? ⟨w.heap.size, 2, none⟩ = some (.int .u64 s.id) := HK1.out.cell rfl
  have k4 : w1.cell? ⟨w.heap.size, 4, none⟩ = some (.string s.service) := HK1.out.cell rfl
  have k5 : w1.cell? ⟨w.heap.size, 5, none⟩ = some (.string s.name) := HK1.out.cell rfl
  have k6 : w1.cell? ⟨w.heap.size, 6, none⟩ = some (.int .i64 s.kind) := HK1.out.cell rfl
  have k7 : w1.cell? ⟨w.heap.size, 7, none⟩ = some (.int .i64 s.start) := HK1.out.cell rfl
  have k8 : w1.cell? ⟨w.heap.size, 8, none⟩ = some (.int .i64 s.length) := HK1.out.cell rfl
  have k10 : w1.cell? ⟨w.heap.size, 10, none⟩ = some (.slice a s.tags.length c) := HK1.out.cell rfl
  generalize (Value.agg #[.int .u64 s.hi, .int .u64 s.lo, .int .u64 s.id, .int .u64 s.parent, .string s.service, .string s.name, .int .i64 s.kind, .int .i64 s.start, .int .i64 s.length, .bool s.fails, .slice a s.tags.length c]) = A
  go_upto_region 3 with fail
  go_cut [3] from 8 to 59 (fun b wx => b = .bool (Sp.fine0 s) ∧ wx = w1)
  case first =>
    go_wp2_with fail
    all_goals first
      | (go_meet; exact ⟨congrArg Value.bool (fine_no (by omega)).symm, rfl⟩)
      | skip
    all_goals
      refine Calls.mono (name_any s.service w1) ?_
      rintro e w2 ⟨rfl, rfl⟩
      cases hn : Sp.name s.service
      · go_wp2_with fail
        go_meet
        exact ⟨congrArg Value.bool (by simp [Sp.fine0, hn]), rfl⟩
      · go_wp2_with fail
        refine Calls.mono (name_any s.name _) ?_
        rintro e w2 ⟨rfl, rfl⟩
        cases hm : Sp.name s.name
        · go_wp2_with fail
          go_meet
          exact ⟨congrArg Value.bool (by simp [Sp.fine0, hm]), rfl⟩
        · go_wp2_with fail
          all_goals
            go_meet
            exact ⟨congrArg Value.bool (by first | exact (fine_no (by omega)).symm | exact fine_last hn hm (by omega) | exact (congrArg (· && _) (bne_iff_ne.2 (by omega))).trans ((Bool.true_and _).trans (fine_last hn hm (by omega)))), rfl⟩
  case rest =>
    obtain ⟨rfl, rfl⟩ := hcut
    clear k0 k1 k2 k4 k5 k6 k7 k8
    go_wp2_with fail
    clear k10
    have hML := HV.out.len
    simp only [maxLen] at hML
    go_loopw [3, 63] (fun b i wr => ∃ j : Nat, i = .int .i64 j ∧ b = .bool (Sp.fine0 s && Sp.okTo s.tags j) ∧ j ≤ s.tags.length ∧ Hid (Below wc.heap.size wc wr)) (fun _ i _ => s.tags.length - (intOf i).toNat)
    case atStart => exact ⟨0, rfl, by simp [Sp.okTo], by omega, Below.refl _ _⟩
    case round =>
      obtain ⟨j, rfl, rfl, hj, HW⟩ := hrel
      by_cases hlt : j < s.tags.length
      · obtain ⟨b, off, cap, ea, _, hb, hc⟩ := tags_at ((HV.out.below HW1.out).below HW.out) (by omega)
        injection ea with e1 e2 e3
        subst e1 e3
        clear e2
        obtain ⟨k0, k1⟩ := hc j hlt
        have HA : Hid (Sp.okTo s.tags (j + 1) = (Sp.okTo s.tags j && Sp.okAt s.tags j)) := by
          show _ = _
          unfold Sp.okTo
          rw [List.range_succ, List.all_append]
          simp
        have HK : Hid (Blk wr w.heap.size (spanCells s (.slice (some ⟨b, off, none⟩) s.tags.length c)).toArray 35) := HK1.out.below HW.out HK1.out.lt
        have k10 : wr.cell? ⟨w.heap.size, 10, none⟩ = some (.slice (some ⟨b, off, none⟩) s.tags.length c) := HK.out.cell rfl
        have hwl : w.heap.size < wr.heap.size := HK.out.lt
        have HN : Hid (∀ n, Below wc.heap.size wc ((wr.alloc (.cells #[.string s.tags[j].key, .string s.tags[j].value] 73)).drewN n)) := fun n => below_dn (HW.out.alloc HW.out.size _) n
        have HT : Hid (s.tags[j]? = some s.tags[j]) := List.getElem?_eq_getElem hlt
        have HP : 0 < j → ∃ q, s.tags[j - 1]? = some q ∧ wr.cell? ⟨b, off + ((j : Int) - 1).toNat * 2, none⟩ = some (.string q.key) := fun h0 =>
          ⟨s.tags[j - 1], List.getElem?_eq_getElem (by omega), by
            have := (hc (j - 1) (by omega)).1
            rw [show ((j : Int) - 1).toNat = j - 1 by omega]; exact this⟩
        clear hc
        generalize s.tags[j] = t at *
        cases hbb : (Sp.fine0 s && Sp.okTo s.tags j) with
        | false =>
          have HR : Hid ((Sp.fine0 s && Sp.okTo s.tags (j + 1)) = false) := by show _ = _; rw [HA.out, ← Bool.and_assoc, hbb]; rfl
          clear HA hbb HP
          go_wp2_with fail
          go_quiet (fail)
          all_goals
            go_wp2_with fail
            go_roundw
            · exact ⟨j + 1, by go_num, by rw [HR.out], by omega, HN.out _⟩
            · simp only [intOf]; omega
        | true =>
          have HR : Hid ((Sp.fine0 s && Sp.okTo s.tags (j + 1)) = Sp.okAt s.tags j) := by show _ = _; rw [HA.out, ← Bool.and_assoc, hbb]; rfl
          clear HA hbb
          cases hn : Sp.name t.key with
          | false =>
            have HR2 : Hid ((Sp.fine0 s && Sp.okTo s.tags (j + 1)) = false) := by show _ = _; rw [HR.out]; unfold Sp.okAt; rw [HT.out]; simp [hn]
            clear HR HP
            go_wp2_with fail
            go_quiet ((go_at_call 42; refine Calls.quiet_of (name_at hn _)))
            all_goals
              go_wp2_with fail
              go_roundw
              · exact ⟨j + 1, by go_num, by rw [HR2.out], by omega, HN.out _⟩
              · simp only [intOf]; omega
          | true =>
            cases hx : Sp.text t.value with
            | false =>
              have HR2 : Hid ((Sp.fine0 s && Sp.okTo s.tags (j + 1)) = false) := by show _ = _; rw [HR.out]; unfold Sp.okAt; rw [HT.out]; simp [hx]
              clear HR HP
              go_wp2_with fail
              go_quiet (first | (go_at_call 42; refine Calls.quiet_of (name_at hn _)) | (go_at_call 43; refine Calls.quiet_of (text_at hx _)))
              all_goals
                go_wp2_with fail
                go_roundw
                · exact ⟨j + 1, by go_num, by rw [HR2.out], by omega, HN.out _⟩
                · simp only [intOf]; omega
            | true =>
              by_cases h0 : 0 < j
              · obtain ⟨q, hq, kq⟩ := HP h0
                have HR2 : Hid ((Sp.fine0 s && Sp.okTo s.tags (j + 1)) = Op.bytesLess q.key.toList t.key.toList) := by
                  show _ = _
                  rw [HR.out]; unfold Sp.okAt; rw [HT.out]
                  obtain ⟨i, rfl⟩ : ∃ i, j = i + 1 := ⟨j - 1, by omega⟩
                  simp only [Nat.add_sub_cancel] at hq
                  simp [hn, hx, hq, Sp.less]
                clear HR HP hq
                have hj0 : ((j : Int) == 0) = false := by simp; omega
                have hw : IntKind.i64.wrap ((j : Int) - 1) = (j : Int) - 1 := wrap_pred j (by omega) (by omega)
                have hj1 : 0 ≤ IntKind.i64.wrap ((j : Int) - 1) ∧ IntKind.i64.wrap ((j : Int) - 1) < (s.tags.length : Int) := by omega
                rw [← hw] at kq
                clear hw
                go_wp2_with fail
                go_quiet (first | (go_at_call 42; refine Calls.quiet_of (name_at hn _)) | (go_at_call 43; refine Calls.quiet_of (text_at hx _)))
                all_goals
                  go_wp2_with fail
                  go_roundw
                  · exact ⟨j + 1, by go_num, by rw [HR2.out], by omega, HN.out _⟩
                  · simp only [intOf]; omega
              · have hj0 : ((j : Int) == 0) = true := by simp; omega
                have HR2 : Hid ((Sp.fine0 s && Sp.okTo s.tags (j + 1)) = true) := by
                  show _ = _
                  rw [HR.out]; unfold Sp.okAt; rw [HT.out]
                  obtain rfl : j = 0 := by omega
                  simp [hn, hx]
                clear HR HP
                go_wp2_with fail
                go_quiet (first | (go_at_call 42; refine Calls.quiet_of (name_at hn _)) | (go_at_call 43; refine Calls.quiet_of (text_at hx _)))
                all_goals
                  go_wp2_with fail
                  go_roundw
                  · exact ⟨j + 1, by go_num, by rw [HR2.out], by omega, HN.out _⟩
                  · simp only [intOf]; omega
      · have hje : j = s.tags.length := by omega
        subst hje
        have HC : Hid (Sp.check s = if Sp.fine0 s && Sp.okTo s.tags s.tags.length then 0 else 2) := by show _ = _; unfold Sp.check; rw [hl]; rfl
        have HW2 : Hid (Below w.heap.size w wr) := HW1.out.trans (HW.out.mono HW1.out.size)
        cases hbb : (Sp.fine0 s && Sp.okTo s.tags s.tags.length) with
        | false =>
          go_wp2_with fail
          go_ret
          exact ⟨by rw [HC.out, hbb]; rfl, HW2.out⟩
        | true =>
          go_wp2_with fail
          go_ret
          exact ⟨by rw [HC.out, hbb]; rfl, HW2.out⟩

theorem check_any (F : Nat → Prop) (s : Sp.T) (vt : Value) (w : World) (hv : Rw tagK F w vt s.tags) :
    Calls Try.prog 34 #[.agg (spanCells s vt).toArray] w fun e w' => e = .returned (.int .i64 (Sp.check s : Int)) ∧ Below w.heap.size w w' := by
  cases hl : Sp.long s with
  | false => exact check_fine F s vt w hv hl
  | true =>
    have hc : Sp.check s = 3 := by unfold Sp.check; rw [hl]; rfl
    rw [hc]
    clear hc
    obtain ⟨a, c, rfl⟩ := hv.isSlice
    have HV := Lib.hid hv
    clear hv
    have HW0 : Hid (Below w.heap.size w (w.alloc (.cells (spanCells s (.slice a s.tags.length c)).toArray 35))) := (Below.refl _ _).alloc (Nat.le_refl _) _
    unfold spanCells at HW0 ⊢
    go_enter Try.func34, Try.ntmps34
    go_wp2_with fail
    refine Calls.mono (long_any F s (.slice a s.tags.length c) _ (HV.out.below HW0.out)) ?_
    rw [hl]
    rintro e w1 ⟨rfl, hb1⟩
    have HW1 : Hid (Below w.heap.size w w1) := HW0.out.trans (hb1.mono HW0.out.size)
    clear hb1 HW0
    go_wp2_with fail
    go_ret
    exact ⟨rfl, HW1.out⟩
end Go.Proofs.Ytiofhmlmimbngaa
