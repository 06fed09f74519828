/- Merge: the document's answer: Between, Seen. -/
import Derived.Test.YtmpapipobjoboaaMgGd
namespace Go.Proofs.Ytmpapipobjoboaa
open Go.RowKit

theorem same_key (a b : List UInt8) : (!Op.bytesLess a b && !Op.bytesLess b a) = decide (a = b) := by
  have h := bless_tot a b
  cases h1 : Op.bytesLess a b with
  | true =>
    have : a ≠ b := fun e => by subst e; rw [h1] at h; simp at h
    simp [this]
  | false =>
    rw [h1, Bool.false_or] at h
    rw [← h]
    by_cases e : a = b <;> simp [e]

theorem rsame_any (F G : Nat → Prop) (va : Value) (xs : List UInt8) (vb : Value) (ys : List UInt8) (w : World) (ha : Bytes F w va xs) (hb : Bytes G w vb ys) :
    Calls Try.prog 64 #[va, vb] w fun e w' => e = .returned (.bool (decide (xs = ys))) ∧ ∃ n, w' = w.drewN n := by
  obtain ⟨aa, ca, rfl⟩ := ha.isSlice
  obtain ⟨ab, cb, rfl⟩ := hb.isSlice
  have HA := Lib.hid ha
  have HB := Lib.hid hb
  clear ha hb
  have HR := Lib.hid (same_key xs ys)
  go_enter Try.func64, Try.ntmps64
  go_wp2_with fail
  refine Calls.mono (rbefore_any _ _ _ xs _ ys w HA.out HB.out) ?_
  rintro _ w1 ⟨rfl, hn⟩
  have HN1 := Lib.hid hn
  have HW1 := Lib.hid (below_drewN hn)
  clear hn
  cases h1 : Op.bytesLess xs ys with
  | true =>
    have HD : Hid (false = decide (xs = ys)) := by show _ = _; rw [← HR.out, h1]; rfl
    go_wp2_with fail
    go_ret
    exact ⟨ret_bool HD.out, HN1.out⟩
  | false =>
    have HD : Hid ((!Op.bytesLess ys xs) = decide (xs = ys)) := by show _ = _; rw [← HR.out, h1]; rfl
    go_wp2_with fail
    refine Calls.mono (rbefore_any _ _ _ ys _ xs w1 (HB.out.below HW1.out) (HA.out.below HW1.out)) ?_
    rintro _ w2 ⟨rfl, hn⟩
    have HN2 : Hid (∃ n, w2 = w.drewN n) := by
      obtain ⟨n1, e1⟩ := HN1.out
      obtain ⟨n2, e2⟩ := hn
      exact ⟨n1 + n2, by rw [e2, e1]; exact World.drewN_drewN _ _ _⟩
    clear hn
    generalize Op.bytesLess ys xs = r at *
    go_wp2_with fail
    go_ret
    exact ⟨ret_bool HD.out, HN2.out⟩

theorem rsame_at {b : Bool} (F G : Nat → Prop) (va : Value) (xs : List UInt8) (vb : Value) (ys : List UInt8) (w : World) (ha : Bytes F w va xs) (hb : Bytes G w vb ys) (h : decide (xs = ys) = b) :
    Calls Try.prog 64 #[va, vb] w fun e w' => e = .returned (.bool b) ∧ ∃ n, w' = w.drewN n := by
  subst h; exact rsame_any F G va xs vb ys w ha hb

/-- What the document tells of entries, so far. -/
def rbtw (f t : List UInt8) (s : Int) (l : List Ent) : List Ent := (rseenGo s none l).filter (inR f t)
def prevE (l : List Ent) (j : Nat) : Option Ent := if j = 0 then none else some (eat l (j - 1))
theorem lastE_take (l : List Ent) (j : Nat) (h : j ≤ l.length) : lastE none (l.take j) = prevE l j := by
  unfold prevE
  cases j with
  | zero => rfl
  | succ j =>
    rw [List.take_succ_eq_append_getElem (by omega), eat_eq (by omega), lastE_append]
    simp
theorem rbtw_snoc (f t : List UInt8) (s : Int) (l : List Ent) (j : Nat) (h : j < l.length) :
    rbtw f t s (l.take (j + 1)) = if (hidB s (prevE l j) (eat l j) = false ∧ (eat l j).kind = 1) ∧ inR f t (eat l j) = true then rbtw f t s (l.take j) ++ [eat l j] else rbtw f t s (l.take j) := by
  unfold rbtw
  rw [List.take_succ_eq_append_getElem h, eat_eq h, rseenGo_append, lastE_take l j (by omega), rseenGo_one, List.filter_append]
  by_cases h1 : hidB s (prevE l j) (eat l j) = false ∧ (eat l j).kind = 1
  · rw [if_pos h1]
    by_cases h2 : inR f t (eat l j) = true
    · rw [if_pos ⟨h1, h2⟩]; simp [h2]
    · rw [if_neg (fun k => h2 k.2)]; simp [h2]
  · rw [if_neg h1, if_neg (fun k => h1 k.1)]; simp
theorem rbtw_prefix (f t : List UInt8) (s : Int) (l : List Ent) (j : Nat) : ∃ r, rbtw f t s l = rbtw f t s (l.take j) ++ r := by
  unfold rbtw
  refine ⟨(rseenGo s (lastE none (l.take j)) (l.drop j)).filter (inR f t), ?_⟩
  rw [← List.filter_append, ← rseenGo_append, List.take_append_drop]
theorem rbtw_len (f t : List UInt8) (s : Int) (l : List Ent) : (rbtw f t s l).length ≤ l.length := Nat.le_trans (List.length_filter_le _ _) (rseenGo_len _ _ _)
theorem lim_of {out r : List Ent} {n : Int} (h : (out.length : Int) ≤ n ∨ out = []) (hr : r = [] ∨ n ≤ (out.length : Int)) : lim n (out ++ r) = out := by
  unfold lim
  rcases h with h | h
  · rcases hr with rfl | hr
    · rw [List.append_nil, List.take_of_length_le (by omega)]
    · rw [List.take_append_of_le_length (by omega), List.take_of_length_le (by omega)]
  · subst h
    rcases hr with rfl | hr
    · simp
    · simp only [List.length_nil] at hr
      rw [show n.toNat = 0 by omega]
      rfl

set_option maxRecDepth 100000 in
set_option maxHeartbeats 4000000 in
theorem rbetween_any (F Gf Gt : Nat → Prop) (v vf vt : Value) (rs : List (List Ent)) (f t : List UInt8) (s n : Int) (w : World) (h : Rw (rowK entK) F w v rs) (hok : ROk rs) (hf : Bytes Gf w vf f) (ht : Bytes Gt w vt t) :
    Calls Try.prog 36 #[v, vf, vt, .int .u64 s, .int .i64 n] w (SeenPost F (lim n (rbtw f t s (allOf rs))) rs w) := by
  obtain ⟨xa, ca, rfl⟩ := h.isSlice
  obtain ⟨fa, fc, rfl⟩ := hf.isSlice
  obtain ⟨ta, tc, rfl⟩ := ht.isSlice
  have HA := Lib.hid h
  have HO := Lib.hid hok
  have HF := Lib.hid hf
  have HT := Lib.hid ht
  clear h hok hf ht
  go_enter Try.func36, Try.ntmps36
  go_wp2_with fail
  refine Calls.mono (rall_any F _ rs _ HA.out HO.out) ?_
  rintro _ w1 ⟨v1, rfl, hr1, hb1⟩
  have HW1 := Lib.hid hb1
  clear hb1
  obtain ⟨ra, rc, rfl⟩ := hr1.isSlice
  rcases chkR_or rs with hc | hc
  · have HC := Lib.hid hc
    have he : refAll rs = allOf rs := by unfold refAll; rw [if_pos HC.out]
    rw [he] at hr1
    rw [he]
    have HR1 : Hid (Rw entK (fun k => (F k ∨ w.heap.size ≤ k) ∧ k < w1.heap.size) w1 (.slice ra (allOf rs).length rc) (allOf rs)) := hr1.mono fun k hk e => ⟨e, hk⟩
    rw [hc]
    have hll : (allOf rs).length ≤ 100000 := Nat.le_trans (allOf_len rs) HO.out.sum
    clear hc hr1 he
    generalize hLL : allOf rs = l at *
    have HLL := Lib.hid hLL
    clear hLL
    obtain ⟨m, hm⟩ : ∃ m, l.length = m := ⟨_, rfl⟩
    have HM := Lib.hid hm
    rw [hm] at HR1 hll
    rw [hm]
    clear hm
    go_wp2_with fail
    go_loopw [14, 15] (fun ov iv wr => ∃ (j : Nat), iv = .int .i64 (j : Int) ∧ j ≤ m ∧ Hid (((rbtw f t s (l.take j)).length : Int) ≤ n ∨ rbtw f t s (l.take j) = []) ∧ Hid (ROwnF entK (fun k => (F k ∨ w.heap.size ≤ k) ∧ k < w1.heap.size) w1.heap.size 29 wr ov (rbtw f t s (l.take j))) ∧ Hid (Below w1.heap.size w1 wr)) (fun _ iv _ => m - (intOf iv).toNat)
    case atStart => exact ⟨0, rfl, by omega, .inr rfl, by show ROwnF _ _ _ _ _ _ _; rw [show rbtw f t s (l.take 0) = [] by rfl]; exact ROwnF.nil _ _ _ _ _, Below.refl _ _⟩
    case round =>
      obtain ⟨j, rfl, hj, HLIM, HRO, HB⟩ := hrel
      obtain ⟨oo, oc, rfl⟩ := HRO.out.isSlice
      by_cases hgo : j < m ∧ ((rbtw f t s (l.take j)).length : Int) < n
      · obtain ⟨hlt, hqn⟩ := hgo
        have hjl : (j : Int) < (m : Int) := by omega
        have hl1 : j < l.length := by rw [HM.out]; omega
        obtain ⟨ba, oa, capa, ea, _, hba, hca⟩ := ents_at (HR1.out.below HB.out) (by omega)
        injection ea with e1 e2 e3
        subst e1 e3
        clear e2
        have HSN := Lib.hid (rbtw_snoc f t s l j hl1)
        have HPV : Hid (0 < j → ∃ vk vv, Bytes (fun k => (F k ∨ w.heap.size ≤ k) ∧ k < w1.heap.size) wr vk (eat l (j - 1)).key ∧ Bytes (fun k => (F k ∨ w.heap.size ≤ k) ∧ k < w1.heap.size) wr vv (eat l (j - 1)).value ∧ C4o ba (oa + (j - 1) * 4) (eat l (j - 1)) vk vv wr) := fun h0 => by
          obtain ⟨vk, vv, g1, g2, g3⟩ := hca (j - 1) (by omega)
          rw [eat_eq (by omega)] at g1 g2 g3
          exact ⟨vk, vv, g1, g2, g3⟩
        obtain ⟨vk, vv, hk, hv, c0, c1, c2, c3⟩ := hca j hl1
        rw [eat_eq hl1] at hk hv c1 c2
        obtain ⟨ka, kc, rfl⟩ := hk.isSlice
        obtain ⟨va, vc, rfl⟩ := hv.isSlice
        have HBA := Lib.hid hba
        have HLen : Hid ((rbtw f t s (l.take j)).length < 1000000) := by have := rbtw_len f t s (l.take j); rw [List.length_take] at this; show _ < _; omega
        clear hca hba hl1
        generalize eat l j = e at *
        generalize rbtw f t s (l.take j) = out at *
        obtain ⟨q, hq⟩ : ∃ q, out.length = q := ⟨_, rfl⟩
        have HQ := Lib.hid hq
        rw [hq] at HRO hqn
        rw [hq]
        clear hq
        go_upto_region 9 with fail
        refine wp_gen fun w2 hw2 => ?_
        have HW2 : Hid (Below wr.heap.size wr w2) := by rw [hw2]; exact (Below.refl _ _).alloc (Nat.le_refl _) _
        have HE1 : Hid (Blk w2 wr.heap.size (entCells e (.slice ka e.key.length kc) (.slice va e.value.length vc)).toArray 29) := by rw [hw2]; exact Blk.at_new rfl rfl
        have HK2 : Hid (Bytes (fun k => (F k ∨ w.heap.size ≤ k) ∧ k < w1.heap.size) w2 (.slice ka e.key.length kc) e.key) := hk.below HW2.out
        have HV2 : Hid (Bytes (fun k => (F k ∨ w.heap.size ≤ k) ∧ k < w1.heap.size) w2 (.slice va e.value.length vc) e.value) := hv.below HW2.out
        have HRO2 := Lib.hid (HRO.out.below HW2.out)
        have HB3 : Hid (Below w1.heap.size w1 w2) := HB.out.trans (HW2.out.mono HB.out.size)
        clear hw2 hk hv c0 c1 c2 c3 HRO HB
        have k0 : w2.cell? ⟨wr.heap.size, 0, none⟩ = some (.slice ka e.key.length kc) := HE1.out.cell rfl
        have k1 : w2.cell? ⟨wr.heap.size, 1, none⟩ = some (.int .u64 e.seq) := HE1.out.cell rfl
        obtain ⟨r, hr⟩ : ∃ r : Bool, r = hidB s (prevE l j) e := ⟨_, rfl⟩
        have HR := Lib.hid hr
        clear hr
        go_cut [69] from 41 to 68 (fun x wx => x = .bool r ∧ ∃ n, wx = w2.drewN n)
        case first =>
          by_cases h1 : s < e.seq
          · have hx : r = true := by rw [HR.out]; simp [hidB, h1]
            subst hx
            have h1d : decide (s < e.seq) = true := decide_eq_true h1
            go_quiet (fail)
            all_goals
              go_wp2_with fail
              go_meet
              exact ⟨rfl, _, rfl⟩
          · have h1d : decide (s < e.seq) = false := decide_eq_false h1
            by_cases h0 : j = 0
            · have hx : r = false := by rw [HR.out]; simp [hidB, h1, prevE, h0]
              subst hx
              have h0d : decide ((0 : Int) < (j : Int)) = false := decide_eq_false (by omega)
              have h0n : ¬ 0 < j := by omega
              clear h0
              go_quiet (fail)
              all_goals
                go_wp2_with fail
                go_meet
                exact ⟨rfl, _, rfl⟩
            · obtain ⟨vp, vpv, g1, g2, g3⟩ := HPV.out (by omega)
              obtain ⟨pa, pc, rfl⟩ := g1.isSlice
              obtain ⟨qc0, qc1, _, _⟩ := g3.keep HW2.out HBA.out
              have hx : r = (decide ((eat l (j - 1)).key = e.key) && decide ((eat l (j - 1)).seq ≤ s)) := by rw [HR.out]; simp [hidB, h1, prevE, h0]
              have HX := Lib.hid hx
              have HP1 := Lib.hid (g1.below HW2.out)
              clear hx g1 g2 g3
              generalize eat l (j - 1) = p at *
              have d0 : 0 < j := by omega
              have d1 : (0 : Int) < (j : Int) := by omega
              have d2 : IntKind.i64.wrap ((j : Int) - 1) = ((j - 1 : Nat) : Int) := by rw [wrap_small (by omega) (by omega)]; omega
              have d3 : 0 ≤ (j : Int) := by omega
              have d4 : ((j - 1 : Nat) : Int) < (m : Int) := by omega
              have d5 : 0 ≤ ((j - 1 : Nat) : Int) := by omega
              clear h0
              generalize j - 1 = jp at *
              by_cases hke : p.key = e.key
              · have HKE := Lib.hid (decide_eq_true hke)
                have HX2 : Hid (r = decide (p.seq ≤ s)) := by show _ = _; rw [HX.out, HKE.out]; rfl
                clear hke
                by_cases hse : p.seq ≤ s
                · have hrt : r = true := by rw [HX2.out]; exact decide_eq_true hse
                  have hsd : decide (p.seq ≤ s) = true := decide_eq_true hse
                  subst hrt
                  go_quiet ((go_at_call 64; refine Calls.quiet_of (rsame_at (b := true) _ _ _ _ _ _ _ (HP1.out.keep (fun _ _ _ => rfl)) (HK2.out.keep (fun _ _ _ => rfl)) HKE.out)))
                  all_goals
                    go_wp2_with fail
                    go_meet
                    exact ⟨rfl, _, rfl⟩
                · have hrt : r = false := by rw [HX2.out]; exact decide_eq_false hse
                  have hsd : decide (p.seq ≤ s) = false := decide_eq_false hse
                  subst hrt
                  go_quiet ((go_at_call 64; refine Calls.quiet_of (rsame_at (b := true) _ _ _ _ _ _ _ (HP1.out.keep (fun _ _ _ => rfl)) (HK2.out.keep (fun _ _ _ => rfl)) HKE.out)))
                  all_goals
                    go_wp2_with fail
                    go_meet
                    exact ⟨rfl, _, rfl⟩
              · have HKE := Lib.hid (decide_eq_false hke)
                have hrt : r = false := by rw [HX.out, HKE.out]; rfl
                clear hke
                subst hrt
                go_quiet ((go_at_call 64; refine Calls.quiet_of (rsame_at (b := false) _ _ _ _ _ _ _ (HP1.out.keep (fun _ _ _ => rfl)) (HK2.out.keep (fun _ _ _ => rfl)) HKE.out)))
                all_goals
                  go_wp2_with fail
                  go_meet
                  exact ⟨rfl, _, rfl⟩
        case rest =>
          obtain ⟨rfl, hn2⟩ := hcut
          have HB2 : Hid (Below w2.heap.size w2 wc) := below_drewN hn2
          clear hn2 k0 k1 HPV
          have HB4 : Hid (Below w1.heap.size w1 wc) := HB3.out.trans (HB2.out.mono HB3.out.size)
          have HE2 := Lib.hid (HE1.out.below HB2.out HE1.out.lt)
          have HK3 := Lib.hid (HK2.out.below HB2.out)
          have HV3 := Lib.hid (HV2.out.below HB2.out)
          have HRO3 := Lib.hid (HRO2.out.below HB2.out)
          clear HB3 HE1 HK2 HV2 HRO2 HB2 HW2
          cases r with
          | true =>
            have HRO4 : Hid (ROwnF entK (fun k => (F k ∨ w.heap.size ≤ k) ∧ k < w1.heap.size) w1.heap.size 29 wc (.slice oo q oc) (rbtw f t s (l.take (j + 1)))) := by rw [HSN.out, if_neg (fun h => by rw [← HR.out] at h; cases h.1.1)]; exact HRO3.out
            have HL4 : Hid (((rbtw f t s (l.take (j + 1))).length : Int) ≤ n ∨ rbtw f t s (l.take (j + 1)) = []) := by rw [HSN.out, if_neg (fun h => by rw [← HR.out] at h; cases h.1.1)]; exact HLIM.out
            clear HRO3
            go_wp2_with fail
            go_roundw
            · exact ⟨j + 1, by go_num, by omega, HL4.out, HRO4.out, HB4.out⟩
            · simp only [intOf]; omega
          | false =>
            obtain ⟨wa, rfl⟩ : ∃ wa : World, wa = wc := ⟨_, rfl⟩
            go_upto_region 10 with fail
            have k0 : wa.cell? ⟨wr.heap.size, 0, none⟩ = some (.slice ka e.key.length kc) := HE2.out.cell rfl
            have k2 : wa.cell? ⟨wr.heap.size, 2, none⟩ = some (.int .i64 e.kind) := HE2.out.cell rfl
            have HFX : Hid (Bytes Gf wa (.slice fa f.length fc) f) := HF.out.below (HW1.out.trans (HB4.out.mono HW1.out.size))
            have HTX : Hid (Bytes Gt wa (.slice ta t.length tc) t) := HT.out.below (HW1.out.trans (HB4.out.mono HW1.out.size))
            obtain ⟨b2, hb2⟩ : ∃ b2 : Bool, b2 = decide (e.kind = 1 ∧ inR f t e = true) := ⟨_, rfl⟩
            have HB2 := Lib.hid hb2
            clear hb2
            go_cut [90] from 70 to 89 (fun x wx => x = .bool b2 ∧ ∃ n, wx = wa.drewN n)
            case first =>
              by_cases hk1 : e.kind = 1
              · have hkb : (e.kind == 1) = true := beq_iff_eq.2 hk1
                have HX : Hid (b2 = inR f t e) := by show _ = _; rw [HB2.out]; simp [hk1]
                clear hk1
                go_wp2_with fail
                refine Calls.mono (rbefore_any _ _ _ e.key _ f _ HK3.out HFX.out) ?_
                rintro _ w3 ⟨rfl, hn3⟩
                have HN3 := Lib.hid hn3
                have HK4 := Lib.hid (HK3.out.below (below_drewN hn3))
                have HT4 := Lib.hid (HTX.out.below (below_drewN hn3))
                have HE4 := Lib.hid (HE2.out.below (below_drewN hn3) HE2.out.lt)
                clear hn3 k0 k2
                have k0 : w3.cell? ⟨wr.heap.size, 0, none⟩ = some (.slice ka e.key.length kc) := HE4.out.cell rfl
                cases h2 : Op.bytesLess e.key f with
                | true =>
                  have hx : b2 = false := by rw [HX.out]; simp [inR, h2]
                  subst hx
                  clear h2
                  go_wp2_with fail
                  go_meet
                  exact ⟨rfl, HN3.out⟩
                | false =>
                  have HX2 : Hid (b2 = (decide (t.length = 0) || Op.bytesLess e.key t)) := by show _ = _; rw [HX.out]; simp [inR, h2]
                  clear h2
                  by_cases h4 : t.length = 0
                  · have hr : b2 = true := by rw [HX2.out]; simp [h4]
                    subst hr
                    have h5 : ((t.length : Int) == 0) = true := beq_iff_eq.2 (by omega)
                    clear h4
                    go_wp2_with fail
                    go_meet
                    exact ⟨rfl, HN3.out⟩
                  · have HX3 : Hid (b2 = Op.bytesLess e.key t) := by show _ = _; rw [HX2.out]; simp [h4]
                    have h5 : ((t.length : Int) == 0) = false := beq_eq_false_iff_ne.2 (by omega)
                    clear h4
                    go_wp2_with fail
                    refine Calls.mono (rbefore_any _ _ _ e.key _ t _ HK4.out HT4.out) ?_
                    rintro _ w4 ⟨rfl, hn4⟩
                    rw [← HX3.out]
                    have HN4 : Hid (∃ n, w4 = wa.drewN n) := by
                      obtain ⟨n1, e1⟩ := HN3.out
                      obtain ⟨n2, e2⟩ := hn4
                      exact ⟨n1 + n2, by rw [e2, e1]; exact World.drewN_drewN _ _ _⟩
                    clear hn4
                    go_wp2_with fail
                    go_meet
                    exact ⟨rfl, HN4.out⟩
              · have hkb : (e.kind == 1) = false := beq_eq_false_iff_ne.2 hk1
                have hx : b2 = false := by rw [HB2.out]; simp [hk1]
                subst hx
                clear hk1
                go_wp2_with fail
                go_meet
                exact ⟨rfl, 0, rfl⟩
            case rest =>
              obtain ⟨rfl, hn5⟩ := hcut
              have HB6 : Hid (Below wa.heap.size wa wc) := below_drewN hn5
              clear hn5 k0 k2
              have HB3 : Hid (Below w1.heap.size w1 wc) := HB4.out.trans (HB6.out.mono HB4.out.size)
              have HE1 := Lib.hid (HE2.out.below HB6.out HE2.out.lt)
              have HK2 := Lib.hid (HK3.out.below HB6.out)
              have HV2 := Lib.hid (HV3.out.below HB6.out)
              have HRO2 := Lib.hid (HRO3.out.below HB6.out)
              clear HB4 HE2 HK3 HV3 HRO3 HB6 HFX HTX
              cases b2 with
              | true =>
                have HS : Hid (e.kind = 1 ∧ inR f t e = true) := by show _ ∧ _; exact of_decide_eq_true HB2.out.symm
                have HSS : Hid ((hidB s (prevE l j) e = false ∧ e.kind = 1) ∧ inR f t e = true) := ⟨⟨HR.out.symm, HS.out.1⟩, HS.out.2⟩
                have k0 : wc.cell? ⟨wr.heap.size, 0, none⟩ = some (.slice ka e.key.length kc) := HE1.out.cell rfl
                have k1 : wc.cell? ⟨wr.heap.size, 1, none⟩ = some (.int .u64 e.seq) := HE1.out.cell rfl
                have k2 : wc.cell? ⟨wr.heap.size, 2, none⟩ = some (.int .i64 e.kind) := HE1.out.cell rfl
                have k3 : wc.cell? ⟨wr.heap.size, 3, none⟩ = some (.slice va e.value.length vc) := HE1.out.cell rfl
                have HBS : Hid (w1.heap.size ≤ w1.heap.size) := Nat.le_refl _
                have HFF : Hid (∀ k, ((F k ∨ w.heap.size ≤ k) ∧ k < w1.heap.size) → ((F k ∨ w.heap.size ≤ k) ∧ k < w1.heap.size)) := fun k h => h
                have HLOW : Hid (∀ k, ((F k ∨ w.heap.size ≤ k) ∧ k < w1.heap.size) → k < w1.heap.size) := fun k h => h.2
                go_wp2_with (with_reducible refine pause_append ?_)
                refine list_gen fun w3 hw3 => ?_
                have HB4 : Hid (Below wc.heap.size wc w3) := by rw [hw3]; exact (Below.refl _ _).alloc (Nat.le_refl _) _
                have HS3 : Hid (Blk w3 wc.heap.size (entCells e (.slice ka e.key.length kc) (.slice va e.value.length vc)).toArray 29) := by rw [hw3]; exact Blk.at_new rfl rfl
                clear hw3 k0 k1 k2 k3
                have HT3 : Hid (Below w1.heap.size w1 w3) := HB3.out.trans (HB4.out.mono HB3.out.size)
                have HRO3 := Lib.hid (HRO2.out.below HB4.out)
                rw [← HQ.out]
                rw [← HQ.out] at HRO3
                refine Pause.go (wpList_append_elF (K := entK) 31 29 _ 64 Try.underlying31 info_entO rfl (fun k => (F k ∨ w.heap.size ≤ k) ∧ k < w1.heap.size) w1.heap.size (.slice oo out.length oc) out wc.heap.size 29 _ e rfl _ _ rfl rfl rfl HRO3.out HS3.out
                  ⟨_, _, rfl, (HK2.out.below HB4.out).mono fun j _ hj => ⟨HFF.out j hj, fun e1 => by have := (HRO3.out.lt j e1).1; have := HLOW.out j hj; omega⟩, (HV2.out.below HB4.out).mono fun j _ hj => ⟨HFF.out j hj, fun e1 => by have := (HRO3.out.lt j e1).1; have := HLOW.out j hj; omega⟩⟩ HLen.out (by decide) (Nat.le_trans HBS.out HT3.out.size) ?_)
                intro v4 w4 hro hg
                have HRO4 : Hid (ROwnF entK (fun k => (F k ∨ w.heap.size ≤ k) ∧ k < w1.heap.size) w1.heap.size 29 w4 v4 (rbtw f t s (l.take (j + 1)))) := by rw [HSN.out, if_pos HSS.out]; exact hro
                have HL4 : Hid (((rbtw f t s (l.take (j + 1))).length : Int) ≤ n ∨ rbtw f t s (l.take (j + 1)) = []) := by rw [HSN.out, if_pos HSS.out]; left; rw [List.length_append, List.length_singleton, HQ.out]; omega
                have HB5 : Hid (Below w1.heap.size w1 w4) := HT3.out.trans (hg.below HT3.out.size fun k e0 => (HRO3.out.lt k e0).1)
                clear hro hg HRO3 HRO2 HS3 HK2 HV2
                go_wp2_with fail
                go_roundw
                · exact ⟨j + 1, by go_num, by omega, HL4.out, HRO4.out, HB5.out⟩
                · simp only [intOf]; omega
              | false =>
                have HS : Hid (¬ (e.kind = 1 ∧ inR f t e = true)) := by show ¬ (_ ∧ _); exact of_decide_eq_false HB2.out.symm
                have HRO4 : Hid (ROwnF entK (fun k => (F k ∨ w.heap.size ≤ k) ∧ k < w1.heap.size) w1.heap.size 29 wc (.slice oo q oc) (rbtw f t s (l.take (j + 1)))) := by rw [HSN.out, if_neg (fun h => HS.out ⟨h.1.2, h.2⟩)]; exact HRO2.out
                have HL4 : Hid (((rbtw f t s (l.take (j + 1))).length : Int) ≤ n ∨ rbtw f t s (l.take (j + 1)) = []) := by rw [HSN.out, if_neg (fun h => HS.out ⟨h.1.2, h.2⟩)]; exact HLIM.out
                clear HRO2
                go_wp2_with fail
                go_roundw
                · exact ⟨j + 1, by go_num, by omega, HL4.out, HRO4.out, HB3.out⟩
                · simp only [intOf]; omega
      · have HD : Hid (SeenPost F (lim n (rbtw f t s l)) rs w (.returned (.tuple #[.slice oo (rbtw f t s (l.take j)).length oc, .int .i64 0])) wr) := by
          refine ⟨_, by rw [HC.out], fun _ => ?_, fun e => absurd HC.out e, HW1.out.trans (HB.out.mono HW1.out.size)⟩
          have h5 := HRO.out
          have h6 : lim n (rbtw f t s l) = rbtw f t s (l.take j) := by
            obtain ⟨r, hr⟩ := rbtw_prefix f t s l j
            rw [hr]
            refine lim_of HLIM.out ?_
            by_cases hjm : j < m
            · right; omega
            · left
              have h7 : l.take j = l := List.take_of_length_le (by rw [HM.out]; omega)
              rw [h7] at hr
              have h8 := congrArg List.length hr
              rw [List.length_append] at h8
              exact List.eq_nil_of_length_eq_zero (by omega)
          rw [h6]
          refine h5.rows.mono fun k _ hk => ?_
          have := HW1.out.size
          rcases hk with hk | hk
          · right; have := (h5.lt k hk).1; omega
          · exact hk.1.1
        clear HRO
        generalize (rbtw f t s (l.take j)).length = q at *
        by_cases hjm : j < m
        · have hjl : (j : Int) < (m : Int) := by omega
          have hqn : ¬ (q : Int) < n := by omega
          go_wp2_with fail
          go_ret2
          exact HD.out
        · have hjl : ¬ (j : Int) < (m : Int) := by omega
          go_wp2_with fail
          go_ret2
          exact HD.out
  · have HC := Lib.hid hc
    have he : refAll rs = [] := by unfold refAll; rw [if_neg (by rw [HC.out]; decide)]
    have HP : Hid (SeenPost F (lim n (rbtw f t s (allOf rs))) rs w (.returned (.tuple #[.slice none 0 0, .int .i64 2])) w1) := ⟨_, by rw [HC.out], (fun e => by rw [HC.out] at e; cases e), fun _ => rfl, HW1.out⟩
    rw [hc]
    clear hc hr1 he
    generalize (refAll rs).length = q at *
    go_wp2_with fail
    go_ret2
    exact HP.out

/-- 2^62, as it stands in the code. -/
def huge : Int := 4611686018427387904

theorem rseen_any (F : Nat → Prop) (v : Value) (rs : List (List Ent)) (s : Int) (w : World) (h : Rw (rowK entK) F w v rs) (hok : ROk rs) :
    Calls Try.prog 34 #[v, .int .u64 s] w (SeenPost F (rseenGo s none (allOf rs)) rs w) := by
  obtain ⟨xa, ca, rfl⟩ := h.isSlice
  have hl : lim huge (rbtw [] [] s (allOf rs)) = rseenGo s none (allOf rs) := by
    have h1 : rbtw [] [] s (allOf rs) = rseenGo s none (allOf rs) := List.filter_eq_self.2 fun e _ => inR_all e
    rw [h1]
    unfold lim
    have h2 := rseenGo_len s (allOf rs) none
    have h3 := allOf_len rs
    have h4 := hok.sum
    exact List.take_of_length_le (by unfold huge; omega)
  have HC := Lib.hid (rbetween_any F (fun _ => True) (fun _ => True) _ (.slice none 0 0) (.slice none 0 0) rs [] [] s huge w h hok (Bytes.nil _ _) (Bytes.nil _ _))
  rw [hl] at HC
  clear h hok hl
  go_enter Try.func34, Try.ntmps34
  go_wp2_with fail
  refine Calls.mono HC.out ?_
  rintro _ w1 ⟨v1, rfl, h1, h2, h3⟩
  have HP : Hid (SeenPost F (rseenGo s none (allOf rs)) rs w (.returned (.tuple #[v1, .int .i64 (chkR rs)])) w1) := ⟨v1, rfl, h1, h2, h3⟩
  clear h1 h2 h3
  go_wp2_with fail
  go_ret2
  exact HP.out
end Go.Proofs.Ytmpapipobjoboaa
