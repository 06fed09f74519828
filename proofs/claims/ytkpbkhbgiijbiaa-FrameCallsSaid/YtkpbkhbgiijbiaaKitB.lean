/- The statements' own helpers Bytes and Frames. -/
import Derived.Test.YtkpbkhbgiijbiaaFrames
import Derived.Deep.QuietTactic
import Derived.Deep.Draws
import Derived.BigQuiet
namespace Go.Proofs.Ytkpbkhbgiijbiaa
open Go.RowKit

theorem drewN_one {w w' : World} (h : ∃ n, w' = w.drewN n) : ∃ n, w'.drew = w.drewN n := by obtain ⟨n, rfl⟩ := h; exact ⟨n + 1, rfl⟩
theorem drewN_more {w w' : World} (h : ∃ n, w' = w.drewN n) (m : Nat) : ∃ n, w'.drewN m = w.drewN n := by obtain ⟨n, rfl⟩ := h; exact ⟨n + m, by simp⟩

theorem take_succ_eq {a b : List UInt8} {j : Nat} (h : a.take j = b.take j) (ha : j < a.length) (hb : j < b.length) (he : a.getD j 0 = b.getD j 0) : a.take (j + 1) = b.take (j + 1) := by
  rw [List.take_succ_eq_append_getElem ha, List.take_succ_eq_append_getElem hb, h]
  simp [List.getD, ha, hb] at he
  rw [he]

theorem kbytes_any (F G : Nat → Prop) (va : Value) (xs : List UInt8) (vb : Value) (ys : List UInt8) (w : World) (ha : Bytes F w va xs) (hb : Bytes G w vb ys) :
    Calls Try.prog 25 #[va, vb] w fun e w' => e = .returned (.bool (decide (xs = ys))) ∧ ∃ n, w' = w.drewN n := by
  obtain ⟨aa, ca, rfl⟩ := ha.isSlice
  obtain ⟨ab, cb, rfl⟩ := hb.isSlice
  have HA := Lib.hid ha
  have HB := Lib.hid hb
  have hml := ha.len
  simp only [maxLen] at hml
  clear ha hb
  by_cases hl : xs.length = ys.length
  · rw [← hl]
    have HB2 : Hid (Bytes G w (Value.slice ab xs.length cb) ys) := by rw [hl]; exact HB.out
    have HL := Lib.hid hl
    clear HB hl
    go_enter Try.func25, Try.ntmps25
    go_wp2_with fail
    go_loopw [5] (fun i wr => ∃ j : Nat, i = .int .i64 j ∧ j ≤ xs.length ∧ Hid (xs.take j = ys.take j) ∧ Hid (∃ n, wr = w.drewN n)) (fun i _ => xs.length - (intOf i).toNat)
    case atStart => exact ⟨0, rfl, by omega, rfl, 0, rfl⟩
    case round =>
      obtain ⟨j, rfl, hj, HE, HW⟩ := hrel
      have hwc : ∀ a, wr.cell? a = w.cell? a := fun a => by obtain ⟨n, h⟩ := HW.out; rw [h]; rfl
      by_cases hlt : j < xs.length
      · obtain ⟨ba, oa, ca', ea, _, _, _, _, hca⟩ := Sl.place HA.out (by rw [u8s_len]; omega)
        obtain ⟨bb, ob, cb', eb, _, _, _, _, hcb⟩ := Sl.place HB2.out (by rw [u8s_len, ← HL.out]; exact Nat.zero_lt_of_lt hlt)
        cases ea
        injection eb with e1 e2 e3
        subst e1 e3
        clear e2
        have ka : wr.cell? ⟨ba, oa + j, none⟩ = some (.int .u8 ((xs.getD j 0).toNat : Int)) := (hwc _).trans <| hca j _ (u8s_get _ _ hlt)
        have kb : wr.cell? ⟨bb, ob + j, none⟩ = some (.int .u8 ((ys.getD j 0).toNat : Int)) := (hwc _).trans <| hcb j _ (u8s_get _ _ (by rw [← HL.out]; exact hlt))
        clear hca hcb hwc
        have hs := take_succ_eq HE.out hlt (by rw [← HL.out]; exact hlt)
        have hxy : ∀ h : xs.getD j 0 ≠ ys.getD j 0, xs ≠ ys := fun h e => h (by rw [e])
        generalize xs.getD j 0 = x at *
        generalize ys.getD j 0 = y at *
        have HS := Lib.hid hs
        have HX := Lib.hid hxy
        clear hs hxy
        by_cases hxy : x = y
        · subst hxy
          go_wp2_with fail
          go_region
          go_wp2_with fail
          go_roundw
          · exact ⟨j + 1, by go_num, by omega, HS.out trivial, (by first | exact HW.out | exact drewN_one HW.out | exact drewN_more HW.out _)⟩
          · simp only [intOf]; omega
        · have hne : ((x.toNat : Int) != (y.toNat : Int)) = true := by
            rw [bne_iff_ne]
            intro h
            exact hxy (UInt8.toNat_inj.1 (by omega))
          have HD : Hid (decide (xs = ys) = false) := by
            show _ = _
            simpa using HX.out hxy
          go_wp2_with fail
          go_quiet (fail)
          all_goals
            go_wp2_with fail
            go_ret
            exact ⟨congrArg (fun b => Ending.returned (.bool b)) HD.out.symm, (by first | exact HW.out | exact drewN_one HW.out | exact drewN_more HW.out _)⟩
      · have HD : Hid (decide (xs = ys) = true) := by
          show _ = _
          have h1 := HE.out
          rw [List.take_of_length_le (by omega), List.take_of_length_le (by rw [← HL.out]; omega)] at h1
          simpa using h1
        go_wp2_with fail
        go_ret
        exact ⟨congrArg (fun b => Ending.returned (.bool b)) HD.out.symm, (by first | exact HW.out | exact drewN_one HW.out | exact drewN_more HW.out _)⟩
  · have he : decide (xs = ys) = false := by simp; intro h; exact hl (by rw [h])
    rw [he]
    have hne : ((xs.length : Int) != (ys.length : Int)) = true := by simp; omega
    go_enter Try.func25, Try.ntmps25
    go_wp2_with fail
    go_ret
    exact ⟨rfl, 0, rfl⟩

theorem kbytes_at {b : Bool} (F G : Nat → Prop) (va : Value) (xs : List UInt8) (vb : Value) (ys : List UInt8) (w : World) (ha : Bytes F w va xs) (hb : Bytes G w vb ys) (h : decide (xs = ys) = b) :
    Calls Try.prog 25 #[va, vb] w fun e w' => e = .returned (.bool b) ∧ ∃ n, w' = w.drewN n := by
  subst h; exact kbytes_any F G va xs vb ys w ha hb

theorem Frames.isSlice {F : Nat → Prop} {w : World} {v : Value} {fs : List Fr.T} (h : Frames F w v fs) : ∃ a c, v = .slice a fs.length c := by
  obtain ⟨cs, h1, _⟩ := h
  obtain ⟨a, c, e, _⟩ := h1.ex
  exact ⟨a, c, e⟩

/-- Where the frames lie. -/
theorem Frames.place {F : Nat → Prop} {w : World} {v : Value} {fs : List Fr.T} (h : Frames F w v fs) (hne : 0 < fs.length) :
    ∃ b off cap, v = .slice (some ⟨b, off, none⟩) fs.length cap ∧ b < w.heap.size ∧ ∀ i (hi : i < fs.length), w.cell? ⟨b, off + i * 2, none⟩ = some (.int .u8 (fs[i].kind.toNat : Int)) ∧
      ∃ vb, w.cell? ⟨b, off + (i * 2 + 1), none⟩ = some vb ∧ Bytes F w vb fs[i].body := by
  obtain ⟨cs, h1, h2⟩ := h
  have hcl := FrCells.len _ _ h2
  obtain ⟨b, off, cap, e, _, h3, _, _, h4⟩ := Sl.place h1 (by omega)
  refine ⟨b, off, cap, e, h3, fun i hi => ?_⟩
  obtain ⟨g1, vb, g2, g3⟩ := FrCells.get _ _ h2 i hi
  exact ⟨h4 _ _ g1, vb, h4 _ _ g2, g3⟩

theorem ftake_succ_eq {a b : List Fr.T} {j : Nat} (h : a.take j = b.take j) (ha : j < a.length) (hb : j < b.length) (he : a[j] = b[j]) : a.take (j + 1) = b.take (j + 1) := by
  rw [List.take_succ_eq_append_getElem ha, List.take_succ_eq_append_getElem hb, h, he]

set_option maxRecDepth 100000 in
set_option maxHeartbeats 2000000 in
theorem kframes_any (F G : Nat → Prop) (va : Value) (xs : List Fr.T) (vb : Value) (ys : List Fr.T) (w : World) (ha : Frames F w va xs) (hb : Frames G w vb ys) (hml : xs.length ≤ 1000000) :
    Calls Try.prog 26 #[va, vb] w fun e w' => e = .returned (.bool (decide (xs = ys))) ∧ ∃ n, w' = w.drewN n := by
  obtain ⟨aa, ca, rfl⟩ := ha.isSlice
  obtain ⟨ab, cb, rfl⟩ := hb.isSlice
  have HA := Lib.hid ha
  have HB := Lib.hid hb
  clear ha hb
  by_cases hl : xs.length = ys.length
  · rw [← hl]
    have HB2 : Hid (Frames G w (Value.slice ab xs.length cb) ys) := by rw [hl]; exact HB.out
    have HL := Lib.hid hl
    clear HB hl
    go_enter Try.func26, Try.ntmps26
    go_wp2_with fail
    go_loopw [5] (fun i wr => ∃ j : Nat, i = .int .i64 j ∧ j ≤ xs.length ∧ Hid (xs.take j = ys.take j) ∧ Hid (∃ n, wr = w.drewN n)) (fun i _ => xs.length - (intOf i).toNat)
    case atStart => exact ⟨0, rfl, by omega, rfl, 0, rfl⟩
    case round =>
      obtain ⟨j, rfl, hj, HE, HW⟩ := hrel
      have hwc : ∀ a, wr.cell? a = w.cell? a := fun a => by obtain ⟨n, h⟩ := HW.out; rw [h]; rfl
      by_cases hlt : j < xs.length
      · have hlt2 : j < ys.length := by rw [← HL.out]; exact hlt
        obtain ⟨ba, oa, ca', ea, hba, hca⟩ := HA.out.place (by omega)
        obtain ⟨bb, ob, cb', eb, hbb, hcb⟩ := HB2.out.place (by omega)
        injection ea with e1 e2 e3
        injection eb with e4 e5 e6
        subst e1 e3 e4 e6
        clear e2 e5
        obtain ⟨ka, v1, ka', hv1⟩ := hca j hlt
        obtain ⟨kb, v2, kb', hv2⟩ := hcb j hlt2
        rw [← Nat.add_assoc] at ka' kb'
        rw [← hwc] at ka kb ka' kb'
        have hwh : wr.heap = w.heap := by obtain ⟨n, h⟩ := HW.out; rw [h]; rfl
        have HV1 : Hid (Bytes F wr v1 xs[j].body) := hv1.keep fun _ _ _ => by rw [hwh]
        have HV2 : Hid (Bytes G wr v2 ys[j].body) := hv2.keep fun _ _ _ => by rw [hwh]
        clear hwh hwc
        have HS : Hid (xs[j] = ys[j] → xs.take (j + 1) = ys.take (j + 1)) := fun h => ftake_succ_eq HE.out hlt hlt2 h
        have HX : Hid (xs[j] ≠ ys[j] → xs ≠ ys) := fun h e => h (by subst e; rfl)
        clear hca hcb hv1 hv2 HA HB2
        generalize xs[j] = f at *
        generalize ys[j] = g at *
        clear hlt2
        obtain ⟨k1, b1⟩ := f
        obtain ⟨k2, b2⟩ := g
        dsimp only at *
        by_cases hk : k1 = k2
        · subst hk
          by_cases hb : b1 = b2
          · subst hb
            have HS2 := Lib.hid (HS.out rfl)
            clear HS HX
            go_wp2_with fail
            go_quiet ((go_at_call 25; refine Calls.quiet_of (kbytes_at (b := true) _ _ _ _ _ _ _ (HV1.out.keep (fun _ _ _ => rfl)) (HV2.out.keep (fun _ _ _ => rfl)) (decide_eq_true rfl))))
            all_goals
              go_wp2_with fail
              go_roundw
              · exact ⟨j + 1, by go_num, by omega, HS2, (by first | exact HW.out | exact drewN_one HW.out | exact drewN_more HW.out _)⟩
              · simp only [intOf]; omega
          · have HD : Hid (decide (xs = ys) = false) := by
              show _ = _
              simpa using HX.out (fun e => hb (congrArg Fr.T.body e))
            have HB : Hid (decide (b1 = b2) = false) := by
              show _ = _
              simpa using hb
            clear HS HX hb
            go_wp2_with fail
            go_quiet ((go_at_call 25; refine Calls.quiet_of (kbytes_at (b := false) _ _ _ _ _ _ _ (HV1.out.keep (fun _ _ _ => rfl)) (HV2.out.keep (fun _ _ _ => rfl)) HB.out)))
            all_goals
              go_wp2_with fail
              go_ret
              exact ⟨congrArg (fun b => Ending.returned (.bool b)) HD.out.symm, (by first | exact HW.out | exact drewN_one HW.out | exact drewN_more HW.out _)⟩
        · have HD : Hid (decide (xs = ys) = false) := by
            show _ = _
            simpa using HX.out (fun e => hk (congrArg Fr.T.kind e))
          have hne : ((k1.toNat : Int) != (k2.toNat : Int)) = true := by
            rw [bne_iff_ne]
            intro h
            exact hk (UInt8.toNat_inj.1 (by omega))
          clear HS HX hk
          go_wp2_with fail
          go_quiet (fail)
          all_goals
            go_wp2_with fail
            go_ret
            exact ⟨congrArg (fun b => Ending.returned (.bool b)) HD.out.symm, (by first | exact HW.out | exact drewN_one HW.out | exact drewN_more HW.out _)⟩
      · have HD : Hid (decide (xs = ys) = true) := by
          show _ = _
          have h1 := HE.out
          rw [List.take_of_length_le (by omega), List.take_of_length_le (by rw [← HL.out]; omega)] at h1
          simpa using h1
        go_wp2_with fail
        go_ret
        exact ⟨congrArg (fun b => Ending.returned (.bool b)) HD.out.symm, (by first | exact HW.out | exact drewN_one HW.out | exact drewN_more HW.out _)⟩
  · have he : decide (xs = ys) = false := by simp; intro h; exact hl (by rw [h])
    rw [he]
    have hne : ((xs.length : Int) != (ys.length : Int)) = true := by simp; omega
    go_enter Try.func26, Try.ntmps26
    go_wp2_with fail
    go_ret
    exact ⟨rfl, 0, rfl⟩
end Go.Proofs.Ytkpbkhbgiijbiaa
