/- bootprintref06: before, Before, Compare, CheckEntry. -/
import Derived.Test.YtmpapipobjoboaaKitE
import Derived.Test.YtmpapipobjoboaaMgBase
namespace Go.Proofs.Ytmpapipobjoboaa
open Go.RowKit

theorem bless_cons (x y : UInt8) (a b : List UInt8) : Op.bytesLess (x :: a) (y :: b) = (decide (x < y) || (x == y && Op.bytesLess a b)) := rfl
theorem drop_at {α : Type} (d : α) (l : List α) (j : Nat) (h : j < l.length) : l.drop j = l.getD j d :: l.drop (j + 1) := by
  rw [List.drop_eq_getElem_cons h]; simp [List.getD, h]

set_option maxHeartbeats 1000000 in
theorem rbefore0_any (F G : Nat → Prop) (va : Value) (xs : List UInt8) (vb : Value) (ys : List UInt8) (w : World) (ha : Bytes F w va xs) (hb : Bytes G w vb ys) :
    Calls Try.prog 80 #[va, vb] w fun e w' => e = .returned (.bool (Op.bytesLess xs ys)) ∧ ∃ n, w' = w.drewN n := by
  obtain ⟨aa, ca, rfl⟩ := ha.isSlice
  obtain ⟨ab, cb, rfl⟩ := hb.isSlice
  have HA := Lib.hid ha
  have HB := Lib.hid hb
  have hml := ha.len
  have hmk := hb.len
  simp only [maxLen] at hml hmk
  clear ha hb
  obtain ⟨r, hr⟩ : ∃ r, Op.bytesLess xs ys = r := ⟨_, rfl⟩
  rw [hr]
  have HR : Hid (Op.bytesLess (xs.drop 0) (ys.drop 0) = r) := hr
  clear hr
  go_enter Try.func80, Try.ntmps80
  go_wp2_with fail
  go_loopw [5] (fun i wr => ∃ j : Nat, i = .int .i64 (j : Int) ∧ j ≤ xs.length ∧ j ≤ ys.length ∧ Hid (Op.bytesLess (xs.drop j) (ys.drop j) = r) ∧ Hid (∃ n, wr = w.drewN n)) (fun i _ => xs.length - (intOf i).toNat)
  case atStart => exact ⟨0, rfl, by omega, by omega, HR, 0, rfl⟩
  case round =>
    clear HR
    obtain ⟨j, rfl, hj, hk, HE, HW⟩ := hrel
    have hwc : ∀ a, wr.cell? a = w.cell? a := fun a => by obtain ⟨n, h⟩ := HW.out; rw [h]; rfl
    by_cases h1 : j < xs.length
    · have h1' : (j : Int) < (xs.length : Int) := by omega
      by_cases h2 : j < ys.length
      · have h2' : (j : Int) < (ys.length : Int) := by omega
        obtain ⟨ba, oa, ca', ea, _, _, _, _, hca⟩ := Sl.place HA.out (by rw [u8s_len]; omega)
        obtain ⟨bb, ob, cb', eb, _, _, _, _, hcb⟩ := Sl.place HB.out (by rw [u8s_len]; omega)
        cases ea
        cases eb
        have ka : wr.cell? ⟨ba, oa + j, none⟩ = some (.int .u8 ((xs.getD j 0).toNat : Int)) := (hwc _).trans <| hca j _ (u8s_get _ _ h1)
        have kb : wr.cell? ⟨bb, ob + j, none⟩ = some (.int .u8 ((ys.getD j 0).toNat : Int)) := (hwc _).trans <| hcb j _ (u8s_get _ _ h2)
        have hr := HE.out
        rw [drop_at 0 xs j h1, drop_at 0 ys j h2, bless_cons] at hr
        clear hca hcb hwc HE
        generalize xs.getD j 0 = x at *
        generalize ys.getD j 0 = y at *
        by_cases hxy : x = y
        · subst hxy
          have hlt : ¬ x < x := UInt8.lt_irrefl x
          rw [decide_eq_false hlt, beq_self_eq_true, Bool.false_or, Bool.true_and] at hr
          have HS := Lib.hid hr
          clear hr hlt
          go_wp2_with fail
          go_quiet (fail)
          all_goals
            go_wp2_with fail
            go_roundw
            · exact ⟨j + 1, by go_num, by omega, by omega, HS, (by first | exact HW.out | exact drewN_one HW.out | exact drewN_more HW.out _)⟩
            · simp only [intOf]; omega
        · have hne : ((x.toNat : Int) != (y.toNat : Int)) = true := by
            rw [bne_iff_ne]
            intro h
            exact hxy (UInt8.toNat_inj.1 (by omega))
          rw [beq_eq_false_iff_ne.2 hxy, Bool.false_and, Bool.or_false] at hr
          have HD : Hid (decide (x.toNat < y.toNat) = r) := by
            show _ = _
            rw [← hr]
            congr 1
          clear hr hxy
          go_wp2_with fail
          go_quiet (fail)
          all_goals
            go_wp2_with fail
            go_quiet (fail)
            all_goals
              go_wp2_with fail
              go_ret
              exact ⟨congrArg (fun b => Ending.returned (.bool b)) HD.out, (by first | exact HW.out | exact drewN_one HW.out | exact drewN_more HW.out _ | exact drewN_one (drewN_more HW.out _) | exact drewN_more (drewN_more HW.out _) _)⟩
      · have h2' : ¬ (j : Int) < (ys.length : Int) := by omega
        have h3 : ¬ (xs.length : Int) < (ys.length : Int) := by omega
        have hr := HE.out
        rw [drop_at 0 xs j h1, List.drop_eq_nil_of_le (show ys.length ≤ j by omega)] at hr
        have HD : Hid (false = r) := hr
        clear hr
        go_wp2_with fail
        go_ret
        exact ⟨congrArg (fun b => Ending.returned (.bool b)) HD.out, HW.out⟩
    · have h1' : ¬ (j : Int) < (xs.length : Int) := by omega
      have hr := HE.out
      rw [List.drop_eq_nil_of_le (show xs.length ≤ j by omega)] at hr
      by_cases h2 : j < ys.length
      · have h3 : (xs.length : Int) < (ys.length : Int) := by omega
        rw [drop_at 0 ys j h2] at hr
        have HD : Hid (true = r) := hr
        clear hr
        go_wp2_with fail
        go_ret
        exact ⟨congrArg (fun b => Ending.returned (.bool b)) HD.out, HW.out⟩
      · have h3 : ¬ (xs.length : Int) < (ys.length : Int) := by omega
        rw [List.drop_eq_nil_of_le (show ys.length ≤ j by omega)] at hr
        have HD : Hid (false = r) := hr
        clear hr
        go_wp2_with fail
        go_ret
        exact ⟨congrArg (fun b => Ending.returned (.bool b)) HD.out, HW.out⟩

theorem rbefore_any (F G : Nat → Prop) (va : Value) (xs : List UInt8) (vb : Value) (ys : List UInt8) (w : World) (ha : Bytes F w va xs) (hb : Bytes G w vb ys) :
    Calls Try.prog 65 #[va, vb] w fun e w' => e = .returned (.bool (Op.bytesLess xs ys)) ∧ ∃ n, w' = w.drewN n := by
  obtain ⟨aa, ca, rfl⟩ := ha.isSlice
  obtain ⟨ab, cb, rfl⟩ := hb.isSlice
  have h := rbefore0_any F G _ xs _ ys w ha hb
  have HC := Lib.hid h
  clear ha hb h
  go_enter Try.func65, Try.ntmps65
  go_wp2_with fail
  refine Calls.mono HC.out ?_
  rintro _ w1 ⟨rfl, hn⟩
  have HN := Lib.hid hn
  clear hn HC
  go_wp2_with fail
  go_ret
  exact ⟨rfl, HN.out⟩

set_option maxHeartbeats 1000000 in
theorem rcompare_any (F G : Nat → Prop) (a b : Ent) (ka va kb vb : Value) (w : World) (ha : Bytes F w ka a.key) (hb : Bytes G w kb b.key) :
    Calls Try.prog 62 #[.agg (entCells a ka va).toArray, .agg (entCells b kb vb).toArray] w fun e w' => e = .returned (.int .i64 (Ent.cmp a b)) ∧ Below w.heap.size w w' := by
  obtain ⟨aa, ca, rfl⟩ := ha.isSlice
  obtain ⟨ab, cb, rfl⟩ := hb.isSlice
  have HS := Lib.hid ha
  have HT := Lib.hid hb
  clear ha hb
  obtain ⟨r, hr⟩ : ∃ r, Ent.cmp a b = r := ⟨_, rfl⟩
  rw [hr]
  unfold Ent.cmp Ent.bcmp at hr
  unfold entCells
  go_enter Try.func62, Try.ntmps62
  go_upto_region 1 with fail
  refine wp_gen fun w1 hw1 => ?_
  have HW1 : Hid (Below w.heap.size w w1) := by rw [hw1]; exact ((Below.refl _ _).alloc (Nat.le_refl _) _).alloc (by simp) _
  have HA1 : Hid (Blk w1 w.heap.size (entCells a (.slice aa a.key.length ca) va).toArray 29) := by rw [hw1]; exact (Blk.at_new rfl rfl).alloc _
  have HB1 : Hid (Blk w1 (w.heap.size + 1) (entCells b (.slice ab b.key.length cb) vb).toArray 29) := by rw [hw1]; exact Blk.at_new (by simp) rfl
  clear hw1
  have HC1 : Hid (CE w.heap.size a b (.slice aa a.key.length ca) (.slice ab b.key.length cb) w1) := ⟨HA1.out.cell rfl, HA1.out.cell rfl, HB1.out.cell rfl, HB1.out.cell rfl⟩
  have HZ1 : Hid (w.heap.size + 1 < w1.heap.size) := HB1.out.lt
  have HS1 : Hid (Bytes F w1 (.slice aa a.key.length ca) a.key) := HS.out.below HW1.out
  have HT1 : Hid (Bytes G w1 (.slice ab b.key.length cb) b.key) := HT.out.below HW1.out
  clear HA1 HB1 HS HT
  obtain ⟨c0, c1, d0, d1⟩ := HC1.out
  go_wp2_with fail
  refine Calls.mono (rbefore0_any F G _ a.key _ b.key w1 HS1.out HT1.out) ?_
  rintro _ w2 ⟨rfl, hn⟩
  have hb2 := below_drewN hn
  obtain ⟨n, hn⟩ := hn
  by_cases h1 : Op.bytesLess a.key b.key = true
  · rw [h1]
    rw [if_pos h1] at hr
    have HD : Hid (-1 = r) := hr
    have HW2 : Hid (Below w.heap.size w w2) := by rw [hn]; exact below_dn HW1.out n
    clear hr h1 c0 c1 d0 d1 hn hb2
    go_wp2_with fail
    go_ret
    exact ⟨ret_int HD.out, HW2.out⟩
  · have h1' : Op.bytesLess a.key b.key = false := by simpa using h1
    rw [h1']
    rw [if_neg h1] at hr
    have HR := Lib.hid hr
    clear hr h1 h1' c0 c1 d0 d1
    have HW2 : Hid (Below w.heap.size w w2) := by rw [hn]; exact below_dn HW1.out n
    obtain ⟨c0, c1, d0, d1⟩ := HC1.out.keep hb2 HZ1.out
    have HS2 := Lib.hid (HS1.out.below hb2)
    have HT2 := Lib.hid (HT1.out.below hb2)
    clear hn hb2 HS1 HT1 HW1
    go_wp2_with fail
    refine Calls.mono (rbefore0_any G F _ b.key _ a.key w2 HT2.out HS2.out) ?_
    rintro _ w3 ⟨rfl, hn⟩
    have hb3 := below_drewN hn
    obtain ⟨n, hn⟩ := hn
    have hsz : w2.heap.size = w3.heap.size := by rw [hn]; rfl
    have HW3 : Hid (Below w.heap.size w w3) := by rw [hn]; exact below_dn HW2.out n
    have hr := HR.out
    by_cases h1 : Op.bytesLess b.key a.key = true
    · rw [h1]
      rw [if_pos h1] at hr
      have HD : Hid (1 = r) := hr
      clear hr h1 c0 c1 d0 d1 hn hb3 hsz
      go_wp2_with fail
      go_ret
      exact ⟨ret_int HD.out, HW3.out⟩
    · have h1' : Op.bytesLess b.key a.key = false := by simpa using h1
      rw [h1']
      rw [if_neg h1] at hr
      have HRR : Hid (Ent.sgn b.seq a.seq = r) := hr
      clear hr h1 h1' hn hsz
      have c1 := (World.cell?_of_block (a := ⟨w.heap.size, 1, none⟩) (hb3.block w.heap.size (World.block_lt_of_cell? _ _ c1))).trans c1
      have d1 := (World.cell?_of_block (a := ⟨w.heap.size + 1, 1, none⟩) (hb3.block (w.heap.size + 1) (World.block_lt_of_cell? _ _ d1))).trans d1
      clear hb3 c0 d0
      have hr := HRR.out
      unfold Ent.sgn at hr
      by_cases h2 : b.seq < a.seq
      · rw [if_pos h2] at hr
        have HD : Hid (-1 = r) := hr
        clear hr
        go_wp2_with fail
        go_ret
        exact ⟨ret_int HD.out, HW3.out⟩
      · rw [if_neg h2] at hr
        by_cases h3 : a.seq < b.seq
        · rw [if_pos h3] at hr
          have HD : Hid (1 = r) := hr
          clear hr
          go_wp2_with fail
          go_ret
          exact ⟨ret_int HD.out, HW3.out⟩
        · rw [if_neg h3] at hr
          have HD : Hid (0 = r) := hr
          clear hr
          go_wp2_with fail
          go_ret
          exact ⟨ret_int HD.out, HW3.out⟩

theorem pos_beq (x : Nat) : decide (0 < x) = !((x : Int) == 0) := by
  by_cases h : x = 0
  · rw [h]; rfl
  · rw [decide_eq_true (by omega), beq_eq_false_iff_ne.2 (by omega)]; rfl
theorem zero_dec (x : Nat) : decide (x = 0) = !(decide ((0 : Int) < (x : Int))) := by
  by_cases h : x = 0
  · rw [h]; rfl
  · rw [decide_eq_false h, decide_eq_true (by omega)]; rfl
theorem right_eq (e : Ent) : (!e.right) = ((((e.kind != 1) && (e.kind != 2)) || ((e.key.length : Int) == 0)) || ((e.kind == 2) && decide ((0 : Int) < (e.value.length : Int)))) := by
  have a1 := pos_beq e.key.length
  have a2 := zero_dec e.value.length
  unfold Ent.right
  rw [a1, a2]
  by_cases h1 : e.kind = 1
  · rw [h1]; cases ((e.key.length : Int) == 0) <;> simp
  · by_cases h2 : e.kind = 2
    · rw [h2]; cases ((e.key.length : Int) == 0) <;> cases (decide ((0 : Int) < (e.value.length : Int))) <;> simp
    · simp [h1, h2, bne]

set_option maxHeartbeats 1000000 in
theorem rodd_any (F G : Nat → Prop) (e : Ent) (vk vv : Value) (w : World) (hk : Bytes F w vk e.key) (hv : Bytes G w vv e.value) :
    Calls Try.prog 72 #[.int .i64 e.kind, vk, vv] w fun x w' => x = .returned (.bool (!e.right)) ∧ w' = w := by
  obtain ⟨ka, kc, rfl⟩ := hk.isSlice
  obtain ⟨va, vc, rfl⟩ := hv.isSlice
  have hl1 := hk.len
  have hl2 := hv.len
  simp only [maxLen] at hl1 hl2
  clear hk hv
  obtain ⟨r, hr⟩ : ∃ r, (!e.right) = r := ⟨_, rfl⟩
  rw [hr]
  rw [right_eq] at hr
  generalize e.kind = kd at *
  generalize e.key.length = x at *
  generalize e.value.length = y at *
  cases h1 : (kd != 1) <;> cases h2 : (kd != 2) <;> cases h3 : (kd == 2) <;> cases h4 : ((x : Int) == 0) <;> by_cases h5 : (0 : Int) < (y : Int)
  all_goals
    simp only [h1, h2, h3, h4, h5, decide_true, decide_false, Bool.and_true, Bool.and_false, Bool.or_true, Bool.or_false] at hr
    have HR := Lib.hid hr
    clear hr
    first
      | have h5n : 0 < y := by omega
      | have h5n : ¬ 0 < y := by omega
    go_enter Try.func72, Try.ntmps72
    go_wp2_with fail
    go_ret
    exact ⟨ret_bool HR.out, rfl⟩

theorem rlong_any (F G : Nat → Prop) (e : Ent) (vk vv : Value) (w : World) (hk : Bytes F w vk e.key) (hv : Bytes G w vv e.value) :
    Calls Try.prog 73 #[vk, vv] w fun x w' => x = .returned (.bool (decide ((4096 : Int) < (e.key.length : Int)) || decide ((65536 : Int) < (e.value.length : Int)))) ∧ w' = w := by
  obtain ⟨ka, kc, rfl⟩ := hk.isSlice
  obtain ⟨va, vc, rfl⟩ := hv.isSlice
  clear hk hv
  generalize e.key.length = x at *
  generalize e.value.length = y at *
  go_enter Try.func73, Try.ntmps73
  by_cases h1 : (4096 : Int) < (x : Int) <;> by_cases h2 : (65536 : Int) < (y : Int)
  all_goals
    go_wp2_with fail
    go_ret
    exact ⟨ret_bool (by simp [h1, h2]), rfl⟩

set_option maxRecDepth 100000 in
set_option maxHeartbeats 1000000 in
theorem rcheckE_any (F G : Nat → Prop) (e : Ent) (vk vv : Value) (w : World) (hk : Bytes F w vk e.key) (hv : Bytes G w vv e.value) :
    Calls Try.prog 47 #[.agg (entCells e vk vv).toArray] w fun x w' => x = .returned (.int .i64 (e.chk : Int)) ∧ Below w.heap.size w w' := by
  obtain ⟨ka, kc, rfl⟩ := hk.isSlice
  obtain ⟨va, vc, rfl⟩ := hv.isSlice
  have HK := Lib.hid hk
  have HV := Lib.hid hv
  clear hk hv
  obtain ⟨c, hc⟩ : ∃ c, e.chk = c := ⟨_, rfl⟩
  have HC := Lib.hid hc
  unfold Ent.chk at hc
  have HC2 := Lib.hid hc
  clear hc
  unfold entCells
  go_enter Try.func47, Try.ntmps47
  go_upto_region 1 with fail
  refine wp_gen fun w1 hw1 => ?_
  have HW1 : Hid (Below w.heap.size w w1) := by rw [hw1]; exact (Below.refl _ _).alloc (Nat.le_refl _) _
  have HE1 : Hid (Blk w1 w.heap.size (entCells e (.slice ka e.key.length kc) (.slice va e.value.length vc)).toArray 29) := by rw [hw1]; exact Blk.at_new rfl rfl
  clear hw1
  have k0 : w1.cell? ⟨w.heap.size, 0, none⟩ = some (.slice ka e.key.length kc) := HE1.out.cell rfl
  have k1 : w1.cell? ⟨w.heap.size, 1, none⟩ = some (.int .u64 e.seq) := HE1.out.cell rfl
  have k2 : w1.cell? ⟨w.heap.size, 2, none⟩ = some (.int .i64 e.kind) := HE1.out.cell rfl
  have k3 : w1.cell? ⟨w.heap.size, 3, none⟩ = some (.slice va e.value.length vc) := HE1.out.cell rfl
  go_wp2_with fail
  refine Calls.mono (rodd_any _ _ e (.slice ka e.key.length kc) (.slice va e.value.length vc) w1 (HK.out.below HW1.out) (HV.out.below HW1.out)) ?_
  rintro _ w2 ⟨rfl, rfl⟩
  cases hr : e.right with
  | false =>
    have hcc : Hid (c = 2) := by show _ = _; rw [← HC2.out, if_pos (.inl hr)]
    go_wp2_with fail
    go_ret
    exact ⟨ret_int (by rw [HC.out, hcc.out]; rfl), HW1.out⟩
  | true =>
    by_cases hs : e.seq = 0
    · have hs1 : (e.seq == 0) = true := beq_iff_eq.2 hs
      have hcc : Hid (c = 2) := by show _ = _; rw [← HC2.out, if_pos (.inr hs)]
      clear hs
      go_wp2_with fail
      go_ret
      exact ⟨ret_int (by rw [HC.out, hcc.out]; rfl), HW1.out⟩
    · have hs1 : (e.seq == 0) = false := beq_eq_false_iff_ne.2 hs
      have hn : ¬ (e.right = false ∨ e.seq = 0) := fun h => by rcases h with h | h; rw [hr] at h; cases h; exact hs h
      have HN := Lib.hid hn
      clear hn hs
      go_wp2_with fail
      refine Calls.mono (rlong_any _ _ e (.slice ka e.key.length kc) (.slice va e.value.length vc) w2 (HK.out.below HW1.out) (HV.out.below HW1.out)) ?_
      rintro _ w3 ⟨rfl, rfl⟩
      by_cases hl : e.key.length ≤ 4096 ∧ e.value.length ≤ 65536
      · rw [show (decide ((4096 : Int) < (e.key.length : Int)) || decide ((65536 : Int) < (e.value.length : Int))) = false by simp; omega]
        by_cases hm : 72057594037927935 < e.seq
        · have hcc : Hid (c = 3) := by show _ = _; rw [← HC2.out, if_neg HN.out, if_pos (.inr (.inr hm))]
          go_wp2_with fail
          go_ret
          exact ⟨ret_int (by rw [HC.out, hcc.out]; rfl), HW1.out⟩
        · have hcc : Hid (c = 0) := by show _ = _; rw [← HC2.out, if_neg HN.out, if_neg (by omega)]
          go_wp2_with fail
          go_ret
          exact ⟨ret_int (by rw [HC.out, hcc.out]; rfl), HW1.out⟩
      · rw [show (decide ((4096 : Int) < (e.key.length : Int)) || decide ((65536 : Int) < (e.value.length : Int))) = true by simp; omega]
        have hcc : Hid (c = 3) := by show _ = _; rw [← HC2.out, if_neg HN.out, if_pos (by omega)]
        go_wp2_with fail
        go_ret
        exact ⟨ret_int (by rw [HC.out, hcc.out]; rfl), HW1.out⟩
end Go.Proofs.Ytmpapipobjoboaa
