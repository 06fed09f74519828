/- Chapter 17's document: Check tells what span.Check tells. -/
import Derived.Test.YtiofhmlmimbngaaRef17
namespace Go.Proofs.Ytiofhmlmimbngaa
open Go.RowKit

theorem bless_tot : ∀ (x y : List UInt8), (Op.bytesLess x y || x == y) = !Op.bytesLess y x
  | [], [] => rfl
  | [], _ :: _ => rfl
  | _ :: _, [] => rfl
  | a :: x, b :: y => by
    have ih := bless_tot x y
    by_cases h : a = b
    · subst h
      have hlt : ¬ a < a := UInt8.lt_irrefl a
      simp only [Op.bytesLess, hlt, decide_false, Bool.false_or, beq_self_eq_true, Bool.true_and]
      rw [← ih]
      simp [List.cons_beq_cons]
    · have h' : b ≠ a := fun e => h e.symm
      rcases Nat.lt_or_gt_of_ne (fun e => h (UInt8.toNat_inj.1 e)) with h1 | h1
      · have g1 : a < b := UInt8.lt_iff_toNat_lt.2 h1
        have g2 : ¬ b < a := fun e => by have := UInt8.lt_iff_toNat_lt.1 e; omega
        simp [Op.bytesLess, g1, g2, h']
      · have g1 : b < a := UInt8.lt_iff_toNat_lt.2 h1
        have g2 : ¬ a < b := fun e => by have := UInt8.lt_iff_toNat_lt.1 e; omega
        simp [Op.bytesLess, g1, g2, h]

theorem plain_at {s : ByteArray} {b : Bool} (h : Sp.plain s = b) (hs : s.size ≤ 1000000) (w : World) : Calls Try.prog 51 #[.string s] w fun e w' => e = .returned (.bool b) ∧ ∃ n, w' = w.drewN n := by
  subst h; exact (plain_any s w hs).mono fun e w' h => ⟨h.1, 0, h.2⟩

theorem name_eq {s : ByteArray} (h : s.size ≤ 128) : Sp.name s = (decide (0 < s.size) && Sp.plain s) := by
  unfold Sp.name Sp.text; rw [decide_eq_true h, Bool.true_and]
theorem text_eq {s : ByteArray} (h : s.size ≤ 128) : Sp.text s = Sp.plain s := by
  unfold Sp.text; rw [decide_eq_true h, Bool.true_and]

def Sp.long0 (s : Sp.T) : Bool := decide (128 < s.service.size) || decide (128 < s.name.size) || decide (16 < s.tags.length)
theorem Sp.long_eq (s : Sp.T) : Sp.long s = (Sp.long0 s || s.tags.any Sp.longTag) := rfl

theorem fine_nm {s : Sp.T} (h : Sp.name s.service = false ∨ Sp.name s.name = false) : Sp.fine0 s = false := by
  unfold Sp.fine0
  rcases h with h | h <;> simp [h]

theorem isE {l : List UInt8} (h : ¬ l = []) : l.isEmpty = false := by cases l with | nil => exact absurd rfl h | cons => rfl
theorem dn_more4 {w w1 : World} (h : ∃ n, w1 = w.drewN n) (k : Nat) : ∃ n, w1.drewN k = w.drewN n := by
  obtain ⟨n, e⟩ := h
  exact ⟨n + k, by rw [e, World.drewN_drewN]⟩
theorem dec_gt (a b : Int) : decide (b < a) = !decide (a ≤ b) := by
  by_cases h : a ≤ b
  · rw [decide_eq_true h, decide_eq_false (by omega)]; rfl
  · rw [decide_eq_false h, decide_eq_true (by omega)]; rfl

set_option maxRecDepth 100000 in
set_option maxHeartbeats 1000000 in
theorem rcheck_long (F : Nat → Prop) (s : Sp.T) (vt : Value) (w : World) (hv : Rw tagK F w vt s.tags) (hl : Sp.long s = true) :
    Calls Try.prog 40 #[.agg (spanCells s vt).toArray] w fun e w' => e = .returned (.int .i64 (Sp.check s : Int)) ∧ Below w.heap.size w w' := by
  obtain ⟨a, c, rfl⟩ := hv.isSlice
  have hML := hv.len
  simp only [maxLen] at hML
  have HV := Lib.hid hv
  clear hv
  unfold spanCells
  go_enter Try.func40, Try.ntmps40
  go_upto_region 1 with fail
  refine wp_gen fun w1 hw1 => ?_
  have HW1 : Hid (Below w.heap.size w w1) := by rw [hw1]; exact (Below.refl _ _).alloc (Nat.le_refl _) _
  have HK1 : Hid (Blk w1 w.heap.size (spanCells s (.slice a s.tags.length c)).toArray 35) := by rw [hw1]; exact Blk.at_new rfl rfl
  clear hw1
  generalize (Value.agg #[.int .u64 s.hi, .int .u64 s.lo, .int .u64 s.id, .int .u64 s.parent, .string s.service, .string s.name, .int .i64 s.kind, .int .i64 s.start, .int .i64 s.length, .bool s.fails, .slice a s.tags.length c]) = A
  have k4 : w1.cell? ⟨w.heap.size, 4, none⟩ = some (.string s.service) := HK1.out.cell rfl
  have k5 : w1.cell? ⟨w.heap.size, 5, none⟩ = some (.string s.name) := HK1.out.cell rfl
  have k10 : w1.cell? ⟨w.heap.size, 10, none⟩ = some (.slice a s.tags.length c) := HK1.out.cell rfl
  go_cut [3] from 6 to 21 (fun b wx => b = .bool (Sp.long0 s) ∧ wx = w1)
  case first =>
    by_cases h1 : 128 < s.service.size
    · have h1' : (128 : Int) < (s.service.size : Int) := by omega
      go_wp2_with fail
      go_meet
      exact ⟨congrArg Value.bool (by simp [Sp.long0, h1]), rfl⟩
    have h1' : decide ((128 : Int) < (s.service.size : Int)) = false := by simp; omega
    by_cases h2 : 128 < s.name.size
    · have h2' : (128 : Int) < (s.name.size : Int) := by omega
      go_wp2_with fail
      go_meet
      exact ⟨congrArg Value.bool (by simp [Sp.long0, h2]), rfl⟩
    have h2' : decide ((128 : Int) < (s.name.size : Int)) = false := by simp; omega
    by_cases h3 : 16 < s.tags.length
    · have h3' : (16 : Int) < (s.tags.length : Int) := by omega
      go_wp2_with fail
      go_meet
      exact ⟨congrArg Value.bool (by simp [Sp.long0, h3]), rfl⟩
    have h3' : decide ((16 : Int) < (s.tags.length : Int)) = false := by simp; omega
    go_wp2_with fail
    go_meet
    exact ⟨congrArg Value.bool (by simp [Sp.long0, h1, h2, h3]), rfl⟩
  case rest =>
    obtain ⟨rfl, rfl⟩ := hcut
    go_wp2_with fail
    go_loop [3, 4] (fun b i => ∃ j : Nat, i = .int .i64 (j : Int) ∧ b = .bool (Sp.long0 s || (s.tags.take j).any Sp.longTag) ∧ j ≤ s.tags.length) (fun _ i => s.tags.length - (intOf i).toNat)
    case atStart => exact ⟨0, rfl, by simp, by omega⟩
    case round =>
      obtain ⟨j, rfl, rfl, hj⟩ := hrel
      by_cases hlt : j < s.tags.length
      · obtain ⟨tb, off, cap, ea, _, hb, hc⟩ := tags_at (HV.out.below HW1.out) (by omega)
        injection ea with e1 e2 e3
        subst e1 e3
        clear e2
        obtain ⟨c0, c1⟩ := hc j hlt
        have HS : Hid ((s.tags.take (j + 1)).any Sp.longTag = ((s.tags.take j).any Sp.longTag || Sp.longTag s.tags[j])) := by
          show _ = _
          rw [List.take_succ_eq_append_getElem hlt, List.any_append]; simp
        clear hc
        generalize s.tags[j] = t at *
        cases hbb : (Sp.long0 s || (s.tags.take j).any Sp.longTag) with
        | true =>
          go_wp2_with fail
          go_round
          case rel => exact ⟨j + 1, by go_num, by rw [HS.out, ← Bool.or_assoc, hbb]; rfl, by omega⟩
          case measure => simp only [intOf]; omega
        | false =>
          by_cases h1 : 128 < t.key.size
          · have h1' : (128 : Int) < (t.key.size : Int) := by omega
            go_wp2_with fail
            go_round
            case rel => exact ⟨j + 1, by go_num, by rw [HS.out, ← Bool.or_assoc, hbb]; simp [Sp.longTag, h1], by omega⟩
            case measure => simp only [intOf]; omega
          · have h1' : decide ((128 : Int) < (t.key.size : Int)) = false := by simp; omega
            have h2 : Sp.longTag t = decide ((128 : Int) < (t.value.size : Int)) := by
              unfold Sp.longTag
              rw [decide_eq_false h1, Bool.false_or]
              exact decide_eq_decide.2 (by omega)
            have HR : Hid ((Sp.long0 s || (s.tags.take (j + 1)).any Sp.longTag) = decide ((128 : Int) < (t.value.size : Int))) := by
              show _ = _
              rw [HS.out, ← Bool.or_assoc, hbb, h2]; rfl
            clear h2
            go_wp2_with fail
            go_round
            case rel => exact ⟨j + 1, by go_num, by rw [HR.out], by omega⟩
            case measure => simp only [intOf]; omega
      · have hje : (Sp.long0 s || (s.tags.take j).any Sp.longTag) = Sp.long s := by rw [List.take_of_length_le (by omega)]; rfl
        rw [hje, hl]
        have hc : Sp.check s = 3 := by unfold Sp.check; rw [hl]; rfl
        go_wp2_with fail
        go_ret
        exact ⟨rfl, HW1.out⟩

set_option maxRecDepth 100000 in
set_option maxHeartbeats 2000000 in
theorem rcheck_bad (F : Nat → Prop) (s : Sp.T) (vt : Value) (w : World) (hv : Rw tagK F w vt s.tags) (hl : Sp.long s = false) (hfb : Sp.fine0 s = false) :
    Calls Try.prog 40 #[.agg (spanCells s vt).toArray] w fun e w' => e = .returned (.int .i64 (Sp.check s : Int)) ∧ Below w.heap.size w w' := by
  obtain ⟨a, c, rfl⟩ := hv.isSlice
  have hML := hv.len
  simp only [maxLen] at hML
  have HV := Lib.hid hv
  have HFB := Lib.hid hfb
  clear hfb
  clear hv
  unfold spanCells
  go_enter Try.func40, Try.ntmps40
  go_upto_region 1 with fail
  refine wp_gen fun w1 hw1 => ?_
  have HW1 : Hid (Below w.heap.size w w1) := by rw [hw1]; exact (Below.refl _ _).alloc (Nat.le_refl _) _
  have HK1 : Hid (Blk w1 w.heap.size (spanCells s (.slice a s.tags.length c)).toArray 35) := by rw [hw1]; exact Blk.at_new rfl rfl
  clear hw1
  generalize (Value.agg #[.int .u64 s.hi, .int .u64 s.lo, .int .u64 s.id, .int .u64 s.parent, .string s.service, .string s.name, .int .i64 s.kind, .int .i64 s.start, .int .i64 s.length, .bool s.fails, .slice a s.tags.length c]) = A
  have k4 : w1.cell? ⟨w.heap.size, 4, none⟩ = some (.string s.service) := HK1.out.cell rfl
  have k5 : w1.cell? ⟨w.heap.size, 5, none⟩ = some (.string s.name) := HK1.out.cell rfl
  have k10 : w1.cell? ⟨w.heap.size, 10, none⟩ = some (.slice a s.tags.length c) := HK1.out.cell rfl
  go_cut [3] from 6 to 21 (fun b wx => b = .bool (Sp.long0 s) ∧ wx = w1)
  case first =>
    by_cases h1 : 128 < s.service.size
    · have h1' : (128 : Int) < (s.service.size : Int) := by omega
      go_wp2_with fail
      go_meet
      exact ⟨congrArg Value.bool (by simp [Sp.long0, h1]), rfl⟩
    have h1' : decide ((128 : Int) < (s.service.size : Int)) = false := by simp; omega
    by_cases h2 : 128 < s.name.size
    · have h2' : (128 : Int) < (s.name.size : Int) := by omega
      go_wp2_with fail
      go_meet
      exact ⟨congrArg Value.bool (by simp [Sp.long0, h2]), rfl⟩
    have h2' : decide ((128 : Int) < (s.name.size : Int)) = false := by simp; omega
    by_cases h3 : 16 < s.tags.length
    · have h3' : (16 : Int) < (s.tags.length : Int) := by omega
      go_wp2_with fail
      go_meet
      exact ⟨congrArg Value.bool (by simp [Sp.long0, h3]), rfl⟩
    have h3' : decide ((16 : Int) < (s.tags.length : Int)) = false := by simp; omega
    go_wp2_with fail
    go_meet
    exact ⟨congrArg Value.bool (by simp [Sp.long0, h1, h2, h3]), rfl⟩
  case rest =>
    obtain ⟨rfl, rfl⟩ := hcut
    go_wp2_with fail
    go_loop [3, 4] (fun b i => ∃ j : Nat, i = .int .i64 (j : Int) ∧ b = .bool (Sp.long0 s || (s.tags.take j).any Sp.longTag) ∧ j ≤ s.tags.length) (fun _ i => s.tags.length - (intOf i).toNat)
    case atStart => exact ⟨0, rfl, by simp, by omega⟩
    case round =>
      obtain ⟨j, rfl, rfl, hj⟩ := hrel
      by_cases hlt : j < s.tags.length
      · obtain ⟨tb, off, cap, ea, _, hb, hc⟩ := tags_at (HV.out.below HW1.out) (by omega)
        injection ea with e1 e2 e3
        subst e1 e3
        clear e2
        obtain ⟨c0, c1⟩ := hc j hlt
        have HS : Hid ((s.tags.take (j + 1)).any Sp.longTag = ((s.tags.take j).any Sp.longTag || Sp.longTag s.tags[j])) := by
          show _ = _
          rw [List.take_succ_eq_append_getElem hlt, List.any_append]; simp
        clear hc
        generalize s.tags[j] = t at *
        cases hbb : (Sp.long0 s || (s.tags.take j).any Sp.longTag) with
        | true =>
          go_wp2_with fail
          go_round
          case rel => exact ⟨j + 1, by go_num, by rw [HS.out, ← Bool.or_assoc, hbb]; rfl, by omega⟩
          case measure => simp only [intOf]; omega
        | false =>
          by_cases h1 : 128 < t.key.size
          · have h1' : (128 : Int) < (t.key.size : Int) := by omega
            go_wp2_with fail
            go_round
            case rel => exact ⟨j + 1, by go_num, by rw [HS.out, ← Bool.or_assoc, hbb]; simp [Sp.longTag, h1], by omega⟩
            case measure => simp only [intOf]; omega
          · have h1' : decide ((128 : Int) < (t.key.size : Int)) = false := by simp; omega
            have h2 : Sp.longTag t = decide ((128 : Int) < (t.value.size : Int)) := by
              unfold Sp.longTag
              rw [decide_eq_false h1, Bool.false_or]
              exact decide_eq_decide.2 (by omega)
            have HR : Hid ((Sp.long0 s || (s.tags.take (j + 1)).any Sp.longTag) = decide ((128 : Int) < (t.value.size : Int))) := by
              show _ = _
              rw [HS.out, ← Bool.or_assoc, hbb, h2]; rfl
            clear h2
            go_wp2_with fail
            go_round
            case rel => exact ⟨j + 1, by go_num, by rw [HR.out], by omega⟩
            case measure => simp only [intOf]; omega
      · have hje : (Sp.long0 s || (s.tags.take j).any Sp.longTag) = Sp.long s := by rw [List.take_of_length_le (by omega)]; rfl
        rw [hje, hl]
        have k0 : wc.cell? ⟨w.heap.size, 0, none⟩ = some (.int .u64 s.hi) := HK1.out.cell rfl
        have k1 : wc.cell? ⟨w.heap.size, 1, none⟩ = some (.int .u64 s.lo) := HK1.out.cell rfl
        have k2 : wc.cell? ⟨w.heap.size, 2, none⟩ = some (.int .u64 s.id) := HK1.out.cell rfl
        have k6 : wc.cell? ⟨w.heap.size, 6, none⟩ = some (.int .i64 s.kind) := HK1.out.cell rfl
        have k7 : wc.cell? ⟨w.heap.size, 7, none⟩ = some (.int .i64 s.start) := HK1.out.cell rfl
        have k8 : wc.cell? ⟨w.heap.size, 8, none⟩ = some (.int .i64 s.length) := HK1.out.cell rfl
        clear hje
        have hsz : s.service.size ≤ 128 ∧ s.name.size ≤ 128 := by
          unfold Sp.long at hl
          simp at hl
          omega
        have HTG : Hid (∀ t ∈ s.tags, t.key.size ≤ 128 ∧ t.value.size ≤ 128) := fun t ht => by
          unfold Sp.long at hl
          simp only [Bool.or_eq_false_iff, List.any_eq_false] at hl
          have := hl.2 t ht
          simp [Sp.longTag] at this
          omega
        have HN1 := Lib.hid (name_eq hsz.1)
        have HN2 := Lib.hid (name_eq hsz.2)
        have HCk : Hid (Sp.check s = if Sp.fine0 s && Sp.okTo s.tags s.tags.length then 0 else 2) := by show _ = _; unfold Sp.check; rw [hl]; rfl
        clear hl
        go_upto_region 8 with fail
        go_cut [114] from 51 to 113 (fun c wx => c = .bool (!Sp.fine0 s) ∧ wx = wc)
        case first =>
          by_cases z1 : 0 < s.service.size
          · have e1 : ¬ s.service.toList = [] := fun e => by rw [bytes_empty] at e; omega
            by_cases z2 : 0 < s.name.size
            · have e2 : ¬ s.name.toList = [] := fun e => by rw [bytes_empty] at e; omega
              go_wp2_with fail
              all_goals first
                | (go_meet; exact ⟨congrArg Value.bool (by rw [fine_no (by omega)]; rfl), rfl⟩)
                | skip
              all_goals
                refine Calls.mono (plain_any s.service _ (by omega)) ?_
                rintro e w2 ⟨rfl, rfl⟩
                cases hp1 : Sp.plain s.service
                · have hf : Sp.fine0 s = false := fine_nm (.inl (by rw [HN1.out, hp1, Bool.and_false]))
                  go_wp2_with fail
                  go_meet
                  exact ⟨congrArg Value.bool (by rw [hf]; rfl), rfl⟩
                · go_wp2_with fail
                  refine Calls.mono (plain_any s.name _ (by omega)) ?_
                  rintro e w2 ⟨rfl, rfl⟩
                  cases hp2 : Sp.plain s.name
                  · have hf : Sp.fine0 s = false := fine_nm (.inr (by rw [HN2.out, hp2, Bool.and_false]))
                    go_wp2_with fail
                    go_meet
                    exact ⟨congrArg Value.bool (by rw [hf]; rfl), rfl⟩
                  · have hn1 : Sp.name s.service = true := by rw [HN1.out, hp1, decide_eq_true z1]; rfl
                    have hn2 : Sp.name s.name = true := by rw [HN2.out, hp2, decide_eq_true z2]; rfl
                    go_wp2_with fail
                    all_goals
                      go_meet
                      exact ⟨congrArg Value.bool (by first | (rw [fine_no (by omega)]; rfl) | (rw [← fine_last hn1 hn2 (by omega), beq_eq_false_iff_ne.2 (show s.id ≠ 0 by omega), isE e1, isE e2, decide_eq_false (show ¬ s.kind < 0 by omega), decide_eq_false (show ¬ 5 < s.kind by omega), decide_eq_false (show ¬ s.start < 0 by omega), decide_eq_false (show ¬ s.length < 0 by omega), decide_eq_false (show ¬ 4611686018427387903 < s.start by omega)]; exact dec_gt _ _)), rfl⟩
            · have hf : Sp.fine0 s = false := fine_nm (.inr (by rw [HN2.out, decide_eq_false z2]; rfl))
              have e2 : s.name.toList = [] := by rw [bytes_empty]; omega
              go_wp2_with fail
              all_goals
                go_meet
                exact ⟨congrArg Value.bool (by rw [hf]; rfl), rfl⟩
          · have hf : Sp.fine0 s = false := fine_nm (.inl (by rw [HN1.out, decide_eq_false z1]; rfl))
            have e1 : s.service.toList = [] := by rw [bytes_empty]; omega
            go_wp2_with fail
            all_goals
              go_meet
              exact ⟨congrArg Value.bool (by rw [hf]; rfl), rfl⟩
        case rest =>
          obtain ⟨rfl, rfl⟩ := hcut
          have hf := HFB.out
          rw [hf]
          have hc : Sp.check s = 2 := by rw [HCk.out, hf]; rfl
          go_wp2_with fail
          go_ret
          exact ⟨by first | rfl | (rw [hc]; rfl), HW1.out⟩

end Go.Proofs.Ytiofhmlmimbngaa
