/- Chapter 17's document: Check tells what span.Check tells (the fine spans). -/
import Derived.Test.YtiofhmlmimbngaaRef17B
namespace Go.Proofs.Ytiofhmlmimbngaa
open Go.RowKit

set_option maxRecDepth 100000 in
set_option maxHeartbeats 8000000 in
theorem rcheck_good (F : Nat → Prop) (s : Sp.T) (vt : Value) (w : World) (hv : Rw tagK F w vt s.tags) (hl : Sp.long s = false) (hfg : Sp.fine0 s = true) :
    Calls Try.prog 40 #[.agg (spanCells s vt).toArray] w fun e w' => e = .returned (.int .i64 (Sp.check s : Int)) ∧ Below w.heap.size w w' := by
  obtain ⟨a, c, rfl⟩ := hv.isSlice
  have hML := hv.len
  simp only [maxLen] at hML
  have HV := Lib.hid hv
  have HFG := Lib.hid hfg
  clear hfg
  clear hv
  unfold spanCells
  go_enter Try.func40, Try.ntmps40
  go_upto_region 1 with fail
  refine wp_gen fun w1 hw1 => ?_
  have HW1 : Hid (Below w.heap.size w w1) := by rw [hw1]; exact (Below.refl _ _).alloc (Nat.le_refl _) _
  have HK1 : Hid (Blk w1 w.heap.size (spanCells s (.slice a s.tags.length c)).toArray 35) := by rw [hw1]; exact Blk.at_new rfl rfl
  clear hw1
  generalize (Value.agg #[.int .u64 s.hi, .int .u64 s.lo, .int .u64 s.id, .int .u64 s.parent, .string s.service, .string s.name, .int .i64 s.kind, .int .i64 s.start, .int .i64 s.length, .bool s.fails, .slice a s.tags.length c]) = A
  have k4 : w1.cell? ⟨w.heap.size, 4, none⟩ = some (.string s.service) := HK1.out.cell rfl
  have k5 : w1.cell? ⟨w.heap.size, 5, none⟩ = some (.string s.name) := HK1.out.cell rfl
  have k10 : w1.cell? ⟨w.heap.size, 10, none⟩ = some (.slice a s.tags.length c) := HK1.out.cell rfl
  go_cut [3] from 6 to 21 (fun b wx => b = .bool (Sp.long0 s) ∧ wx = w1)
  case first =>
    by_cases h1 : 128 < s.service.size
    · have h1' : (128 : Int) < (s.service.size : Int) := by omega
      go_wp2_with fail
      go_meet
      exact ⟨congrArg Value.bool (by simp [Sp.long0, h1]), rfl⟩
    have h1' : decide ((128 : Int) < (s.service.size : Int)) = false := by simp; omega
    by_cases h2 : 128 < s.name.size
    · have h2' : (128 : Int) < (s.name.size : Int) := by omega
      go_wp2_with fail
      go_meet
      exact ⟨congrArg Value.bool (by simp [Sp.long0, h2]), rfl⟩
    have h2' : decide ((128 : Int) < (s.name.size : Int)) = false := by simp; omega
    by_cases h3 : 16 < s.tags.length
    · have h3' : (16 : Int) < (s.tags.length : Int) := by omega
      go_wp2_with fail
      go_meet
      exact ⟨congrArg Value.bool (by simp [Sp.long0, h3]), rfl⟩
    have h3' : decide ((16 : Int) < (s.tags.length : Int)) = false := by simp; omega
    go_wp2_with fail
    go_meet
    exact ⟨congrArg Value.bool (by simp [Sp.long0, h1, h2, h3]), rfl⟩
  case rest =>
    obtain ⟨rfl, rfl⟩ := hcut
    go_wp2_with fail
    go_loop [3, 4] (fun b i => ∃ j : Nat, i = .int .i64 (j : Int) ∧ b = .bool (Sp.long0 s || (s.tags.take j).any Sp.longTag) ∧ j ≤ s.tags.length) (fun _ i => s.tags.length - (intOf i).toNat)
    case atStart => exact ⟨0, rfl, by simp, by omega⟩
    case round =>
      obtain ⟨j, rfl, rfl, hj⟩ := hrel
      by_cases hlt : j < s.tags.length
      · obtain ⟨tb, off, cap, ea, _, hb, hc⟩ := tags_at (HV.out.below HW1.out) (by omega)
        injection ea with e1 e2 e3
        subst e1 e3
        clear e2
        obtain ⟨c0, c1⟩ := hc j hlt
        have HS : Hid ((s.tags.take (j + 1)).any Sp.longTag = ((s.tags.take j).any Sp.longTag || Sp.longTag s.tags[j])) := by
          show _ = _
          rw [List.take_succ_eq_append_getElem hlt, List.any_append]; simp
        clear hc
        generalize s.tags[j] = t at *
        cases hbb : (Sp.long0 s || (s.tags.take j).any Sp.longTag) with
        | true =>
          go_wp2_with fail
          go_round
          case rel => exact ⟨j + 1, by go_num, by rw [HS.out, ← Bool.or_assoc, hbb]; rfl, by omega⟩
          case measure => simp only [intOf]; omega
        | false =>
          by_cases h1 : 128 < t.key.size
          · have h1' : (128 : Int) < (t.key.size : Int) := by omega
            go_wp2_with fail
            go_round
            case rel => exact ⟨j + 1, by go_num, by rw [HS.out, ← Bool.or_assoc, hbb]; simp [Sp.longTag, h1], by omega⟩
            case measure => simp only [intOf]; omega
          · have h1' : decide ((128 : Int) < (t.key.size : Int)) = false := by simp; omega
            have h2 : Sp.longTag t = decide ((128 : Int) < (t.value.size : Int)) := by
              unfold Sp.longTag
              rw [decide_eq_false h1, Bool.false_or]
              exact decide_eq_decide.2 (by omega)
            have HR : Hid ((Sp.long0 s || (s.tags.take (j + 1)).any Sp.longTag) = decide ((128 : Int) < (t.value.size : Int))) := by
              show _ = _
              rw [HS.out, ← Bool.or_assoc, hbb, h2]; rfl
            clear h2
            go_wp2_with fail
            go_round
            case rel => exact ⟨j + 1, by go_num, by rw [HR.out], by omega⟩
            case measure => simp only [intOf]; omega
      · have hje : (Sp.long0 s || (s.tags.take j).any Sp.longTag) = Sp.long s := by rw [List.take_of_length_le (by omega)]; rfl
        rw [hje, hl]
        have k0 : wc.cell? ⟨w.heap.size, 0, none⟩ = some (.int .u64 s.hi) := HK1.out.cell rfl
        have k1 : wc.cell? ⟨w.heap.size, 1, none⟩ = some (.int .u64 s.lo) := HK1.out.cell rfl
        have k2 : wc.cell? ⟨w.heap.size, 2, none⟩ = some (.int .u64 s.id) := HK1.out.cell rfl
        have k6 : wc.cell? ⟨w.heap.size, 6, none⟩ = some (.int .i64 s.kind) := HK1.out.cell rfl
        have k7 : wc.cell? ⟨w.heap.size, 7, none⟩ = some (.int .i64 s.start) := HK1.out.cell rfl
        have k8 : wc.cell? ⟨w.heap.size, 8, none⟩ = some (.int .i64 s.length) := HK1.out.cell rfl
        clear hje
        have hsz : s.service.size ≤ 128 ∧ s.name.size ≤ 128 := by
          unfold Sp.long at hl
          simp at hl
          omega
        have HTG : Hid (∀ t ∈ s.tags, t.key.size ≤ 128 ∧ t.value.size ≤ 128) := fun t ht => by
          unfold Sp.long at hl
          simp only [Bool.or_eq_false_iff, List.any_eq_false] at hl
          have := hl.2 t ht
          simp [Sp.longTag] at this
          omega
        have HN1 := Lib.hid (name_eq hsz.1)
        have HN2 := Lib.hid (name_eq hsz.2)
        have HCk : Hid (Sp.check s = if Sp.fine0 s && Sp.okTo s.tags s.tags.length then 0 else 2) := by show _ = _; unfold Sp.check; rw [hl]; rfl
        clear hl
        go_upto_region 8 with fail
        go_cut [114] from 51 to 113 (fun c wx => c = .bool false ∧ wx = wc)
        case first =>
          have hnn : Sp.name s.service = true ∧ Sp.name s.name = true := by
            have h := HFG.out
            unfold Sp.fine0 at h
            simp only [Bool.and_eq_true] at h
            exact ⟨h.1.1.1.1.1.1.1.2, h.1.1.1.1.1.1.2⟩
          have hff : ¬(s.hi = 0 ∧ s.lo = 0) ∧ s.id ≠ 0 ∧ 0 ≤ s.kind ∧ s.kind ≤ 5 ∧ 0 ≤ s.start ∧ 0 ≤ s.length ∧ s.start ≤ 4611686018427387903 ∧ s.length ≤ 4611686018427387903 - s.start := by
            have h := HFG.out
            by_cases hx : (s.hi = 0 ∧ s.lo = 0) ∨ s.id = 0 ∨ s.kind < 0 ∨ 5 < s.kind ∨ s.start < 0 ∨ s.length < 0 ∨ 4611686018427387903 < s.start ∨ 4611686018427387903 - s.start < s.length
            · rw [fine_no hx] at h; cases h
            · omega
          obtain ⟨hn1, hn2⟩ := hnn
          rw [HN1.out, Bool.and_eq_true] at hn1
          rw [HN2.out, Bool.and_eq_true] at hn2
          obtain ⟨q1, q2, q3, q4, q5, q6, q7, q8⟩ := hff
          have e1 : ¬ s.service.toList = [] := fun e => by rw [bytes_empty] at e; have := of_decide_eq_true hn1.1; omega
          have e2 : ¬ s.name.toList = [] := fun e => by rw [bytes_empty] at e; have := of_decide_eq_true hn2.1; omega
          have q3' : ¬ s.kind < 0 := by omega
          have q4' : ¬ 5 < s.kind := by omega
          have q5' : ¬ s.start < 0 := by omega
          have q6' : ¬ s.length < 0 := by omega
          have q7' : ¬ 4611686018427387903 < s.start := by omega
          have q8' : ¬ 4611686018427387903 - s.start < s.length := by omega
          have hp1 := hn1.2
          have hp2 := hn2.2
          clear hn1 hn2
          go_wp2_with fail
          all_goals first
            | (exfalso; omega)
            | skip
          all_goals
            refine Calls.mono (plain_any s.service _ (by omega)) ?_
            rintro e w2 ⟨rfl, rfl⟩
            rw [hp1]
            go_wp2_with fail
            refine Calls.mono (plain_any s.name _ (by omega)) ?_
            rintro e w2 ⟨rfl, rfl⟩
            rw [hp2]
            go_wp2_with fail
            all_goals
              go_meet
              exact ⟨congrArg Value.bool (by first | rfl | (simp [isE e1, isE e2, q2, q3', q4', q5', q6', q7', q8']; done) | (simp [isE e1, isE e2, q2, q3', q4', q5', q6', q7', q8']; omega)), rfl⟩
        case rest =>
          obtain ⟨rfl, rfl⟩ := hcut
          have hf := HFG.out
          clear k0 k1 k2 k4 k5 k6 k7 k8
          go_wp2_with fail
          go_loopw [5] (fun i wr => ∃ j : Nat, i = .int .i64 (j : Int) ∧ Hid (Sp.okTo s.tags j = true) ∧ j ≤ s.tags.length ∧ Hid (∃ n, wr = wc.drewN n)) (fun i _ => s.tags.length - (intOf i).toNat)
          case atStart => exact ⟨0, rfl, rfl, by omega, 0, rfl⟩
          case round =>
            obtain ⟨j, rfl, HO, hj, HW⟩ := hrel
            have HBr : Hid (Below wc.heap.size wc wr) := by obtain ⟨n, e⟩ := HW.out; rw [e]; exact ⟨rfl, rfl, rfl, Nat.le_refl _, fun _ _ => rfl⟩
            have HKr : Hid (Blk wr w.heap.size (spanCells s (.slice a s.tags.length c)).toArray 35) := HK1.out.below HBr.out HK1.out.lt
            have hwb : Below w.heap.size w wr := HW1.out.trans (HBr.out.mono HW1.out.size)
            have HWr := Lib.hid hwb
            clear hwb
            have kt : wr.cell? ⟨w.heap.size, 10, none⟩ = some (.slice a s.tags.length c) := HKr.out.cell rfl
            by_cases hlt : j < s.tags.length
            · obtain ⟨tb, off, cap, ea, _, hb, hc⟩ := tags_at ((HV.out.below HW1.out).below HBr.out) (by omega)
              injection ea with e1 e2 e3
              subst e1 e3
              clear e2
              obtain ⟨c0, c1⟩ := hc j hlt
              have hg := HTG.out s.tags[j] (List.getElem_mem hlt)
              have HA : Hid (Sp.okTo s.tags (j + 1) = Sp.okAt s.tags j) := by
                show _ = _
                have h1 := HO.out
                unfold Sp.okTo at h1 ⊢
                rw [List.range_succ, List.all_append, h1]
                simp
              have HM : Hid (Sp.okAt s.tags j = false → Sp.check s = 2) := fun h => by
                have h2 : Sp.okTo s.tags s.tags.length = false := by
                  cases hh : Sp.okTo s.tags s.tags.length with
                  | false => rfl
                  | true => rw [List.all_eq_true.1 hh j (List.mem_range.2 hlt)] at h; cases h
                rw [HCk.out, h2, Bool.and_false]; rfl
              have HT : Hid (s.tags[j]? = some s.tags[j]) := List.getElem?_eq_getElem hlt
              have HP : 0 < j → ∃ q, s.tags[j - 1]? = some q ∧ wr.cell? ⟨tb, off + ((j : Int) - 1).toNat * 2, none⟩ = some (.string q.key) := fun h0 =>
                ⟨s.tags[j - 1], List.getElem?_eq_getElem (by omega), by
                  have := (hc (j - 1) (by omega)).1
                  rw [show ((j : Int) - 1).toNat = j - 1 by omega]; exact this⟩
              clear hc
              generalize s.tags[j] = t at *
              have HNk := Lib.hid (name_eq hg.1)
              have HTv := Lib.hid (text_eq hg.2)
              have hts1 : t.key.size ≤ 1000000 := by omega
              have hts2 : t.value.size ≤ 1000000 := by omega
              by_cases z : 0 < t.key.size
              · have ez : t.key.toList.isEmpty = false := isE fun e => by rw [bytes_empty] at e; omega
                have ez' : ¬ t.key.toList = [] := fun e => by rw [bytes_empty] at e; omega
                have hbq : (t.key.toList == []) = false := by rw [beq_eq_false_iff_ne]; exact ez'
                cases hp : Sp.plain t.key with
                | false =>
                  have HF : Hid (Sp.check s = 2) := HM.out (by unfold Sp.okAt; rw [HT.out]; simp [HNk.out, hp])
                  go_wp2_with fail
                  go_quiet ((go_at_call 51; with_reducible refine Calls.quiet_of (plain_at hp hts1 _)))
                  all_goals
                    go_wp2_with fail
                    go_ret
                    exact ⟨(congrArg (fun n : Nat => Ending.returned (.int .i64 (n : Int))) HF.out).symm, below_dn HWr.out _⟩
                | true =>
                  have hn : Sp.name t.key = true := by rw [HNk.out, hp, decide_eq_true z]; rfl
                  cases hx : Sp.plain t.value with
                  | false =>
                    have HF : Hid (Sp.check s = 2) := HM.out (by unfold Sp.okAt; rw [HT.out]; simp [HTv.out, hx])
                    go_wp2_with fail
                    go_quiet (first | (go_at_call 51; with_reducible refine Calls.quiet_of (plain_at hp hts1 _)) | (go_at_call 51; with_reducible refine Calls.quiet_of (plain_at hx hts2 _)))
                    all_goals
                      go_wp2_with fail
                      go_ret
                      exact ⟨(congrArg (fun n : Nat => Ending.returned (.int .i64 (n : Int))) HF.out).symm, below_dn HWr.out _⟩
                  | true =>
                    have ht : Sp.text t.value = true := by rw [HTv.out, hx]
                    by_cases h0 : 0 < j
                    · obtain ⟨q, hq, kq⟩ := HP h0
                      have HV2 : Hid (Sp.okAt s.tags j = Op.bytesLess q.key.toList t.key.toList) := by
                        show _ = _
                        unfold Sp.okAt; rw [HT.out]
                        obtain ⟨i, rfl⟩ : ∃ i, j = i + 1 := ⟨j - 1, by omega⟩
                        simp only [Nat.add_sub_cancel] at hq
                        simp [hn, ht, hq, Sp.less]
                      have HTot := Lib.hid (bless_tot t.key.toList q.key.toList)
                      have hj0 : (0 : Int) < (j : Int) := by omega
                      have hw : IntKind.i64.wrap ((j : Int) - 1) = (j : Int) - 1 := wrap_pred j (by omega) (by omega)
                      have hj1 : 0 ≤ IntKind.i64.wrap ((j : Int) - 1) ∧ IntKind.i64.wrap ((j : Int) - 1) < (s.tags.length : Int) := by omega
                      rw [← hw] at kq
                      clear hw HP hq
                      cases hbl : Op.bytesLess q.key.toList t.key.toList with
                      | true =>
                        have HG : Sp.okAt s.tags j = true := HV2.out.trans hbl
                        have hh := HTot.out
                        rw [hbl] at hh
                        simp only [Bool.not_true, Bool.or_eq_false_iff] at hh
                        obtain ⟨hl1, hl2⟩ := hh
                        go_wp2_with fail
                        go_quiet (first | (go_at_call 51; with_reducible refine Calls.quiet_of (plain_at hp hts1 _)) | (go_at_call 51; with_reducible refine Calls.quiet_of (plain_at hx hts2 _)))
                        all_goals
                          go_wp2_with fail
                          go_roundw
                          · exact ⟨j + 1, by go_num, HA.out.trans HG, by omega, dn_more4 HW.out _⟩
                          · simp only [intOf]; omega
                      | false =>
                        have HF : Hid (Sp.check s = 2) := HM.out (HV2.out.trans hbl)
                        have hh := HTot.out
                        rw [hbl] at hh
                        simp only [Bool.not_false] at hh
                        go_wp2_with fail
                        go_quiet (first | (go_at_call 51; with_reducible refine Calls.quiet_of (plain_at hp hts1 _)) | (go_at_call 51; with_reducible refine Calls.quiet_of (plain_at hx hts2 _)))
                        all_goals
                          go_wp2_with fail
                          go_ret
                          exact ⟨(congrArg (fun n : Nat => Ending.returned (.int .i64 (n : Int))) HF.out).symm, below_dn HWr.out _⟩
                    · have hj0 : decide ((0 : Int) < (j : Int)) = false := by simp; omega
                      have HG : Sp.okAt s.tags j = true := by
                        unfold Sp.okAt; rw [HT.out]
                        obtain rfl : j = 0 := by omega
                        simp [hn, ht]
                      clear HP
                      go_wp2_with fail
                      go_quiet (first | (go_at_call 51; with_reducible refine Calls.quiet_of (plain_at hp hts1 _)) | (go_at_call 51; with_reducible refine Calls.quiet_of (plain_at hx hts2 _)))
                      all_goals
                        go_wp2_with fail
                        go_roundw
                        · exact ⟨j + 1, by go_num, HA.out.trans HG, by omega, dn_more4 HW.out _⟩
                        · simp only [intOf]; omega
              · have ez : t.key.toList.isEmpty = true := by
                  have : t.key.toList = [] := by rw [bytes_empty]; omega
                  rw [this]; rfl
                have ez' : t.key.toList = [] := by rw [bytes_empty]; omega
                have HF : Hid (Sp.check s = 2) := HM.out (by unfold Sp.okAt; rw [HT.out]; simp [HNk.out, z])
                go_wp2_with fail
                go_quiet (fail)
                all_goals
                  go_wp2_with fail
                  go_ret
                  exact ⟨(congrArg (fun n : Nat => Ending.returned (.int .i64 (n : Int))) HF.out).symm, below_dn HWr.out _⟩
            · obtain rfl : j = s.tags.length := by omega
              have hc : Sp.check s = 0 := by rw [HCk.out, hf, HO.out]; rfl
              go_wp2_with fail
              go_ret
              exact ⟨by first | rfl | (rw [hc]; rfl), HWr.out⟩

theorem rcheck_any (F : Nat → Prop) (s : Sp.T) (vt : Value) (w : World) (hv : Rw tagK F w vt s.tags) :
    Calls Try.prog 40 #[.agg (spanCells s vt).toArray] w fun e w' => e = .returned (.int .i64 (Sp.check s : Int)) ∧ Below w.heap.size w w' := by
  cases hl : Sp.long s with
  | true => exact rcheck_long F s vt w hv hl
  | false => cases hf : Sp.fine0 s with
    | false => exact rcheck_bad F s vt w hv hl hf
    | true => exact rcheck_good F s vt w hv hl hf
end Go.Proofs.Ytiofhmlmimbngaa
