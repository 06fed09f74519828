/- Merge: Between. -/
import Derived.Test.YtmpapipobjoboaaMgSw
namespace Go.Proofs.Ytmpapipobjoboaa
open Go.RowKit

theorem bcmp_ge {a b : List UInt8} : (0 ≤ Ent.bcmp a b) ↔ Op.bytesLess a b = false := by
  unfold Ent.bcmp
  cases h1 : Op.bytesLess a b <;> cases h2 : Op.bytesLess b a <;> simp
theorem bcmp_lt {a b : List UInt8} : (Ent.bcmp a b < 0) ↔ Op.bytesLess a b = true := by
  unfold Ent.bcmp
  cases h1 : Op.bytesLess a b <;> cases h2 : Op.bytesLess b a <;> simp

/-- What is told of a list, so far. -/
def btw (f t : List UInt8) (n : Int) (l : List Ent) : List Ent := lim n (l.filter (inR f t))
theorem btw_snoc (f t : List UInt8) (n : Int) (l : List Ent) (e : Ent) : btw f t n (l ++ [e]) = if ((btw f t n l).length : Int) < n ∧ inR f t e = true then btw f t n l ++ [e] else btw f t n l := by
  unfold btw lim
  rw [List.filter_append, List.filter_cons, List.filter_nil]
  by_cases h : inR f t e = true
  · rw [if_pos h]
    by_cases h2 : ((List.take n.toNat (List.filter (inR f t) l)).length : Int) < n
    · rw [if_pos ⟨h2, h⟩]
      rw [List.length_take] at h2
      have h3 : (List.filter (inR f t) l).length < n.toNat := by omega
      rw [List.take_of_length_le (by rw [List.length_append, List.length_singleton]; omega), List.take_of_length_le (by omega)]
    · rw [if_neg (fun h => h2 h.1)]
      rw [List.length_take] at h2
      rw [List.take_append_of_le_length (by omega)]
  · rw [if_neg h, if_neg (fun k => h k.2), List.append_nil]
theorem btw_len (f t : List UInt8) (n : Int) (l : List Ent) : (btw f t n l).length ≤ l.length := by
  unfold btw lim
  rw [List.length_take]
  have := List.length_filter_le (inR f t) l
  omega

set_option maxRecDepth 100000 in
set_option maxHeartbeats 2000000 in
theorem mbetween_any (F Gf Gt : Nat → Prop) (v vf vt : Value) (rs : List (List Ent)) (f t : List UInt8) (s n : Int) (w : World) (h : Rw (rowK entK) F w v rs) (hok : ROk rs) (hf : Bytes Gf w vf f) (ht : Bytes Gt w vt t) :
    Calls Try.prog 35 #[v, vf, vt, .int .u64 s, .int .i64 n] w (SeenPost (fun _ => False) (btw f t n (seenR s rs)) rs w) := by
  obtain ⟨xa, ca, rfl⟩ := h.isSlice
  obtain ⟨fa, fc, rfl⟩ := hf.isSlice
  obtain ⟨ta, tc, rfl⟩ := ht.isSlice
  have HA := Lib.hid h
  have HO := Lib.hid hok
  have HF := Lib.hid hf
  have HT := Lib.hid ht
  clear h hok hf ht
  go_enter Try.func35, Try.ntmps35
  go_wp2_with fail
  refine Calls.mono (mseen_any F _ rs s _ HA.out HO.out) ?_
  rintro _ w1 ⟨v1, rfl, hr1, hz1, hb1⟩
  have HW1 := Lib.hid hb1
  clear hb1
  rcases chkR_or rs with hc | hc
  · have hr1 := hr1 hc
    obtain ⟨ra, rc, rfl⟩ := hr1.isSlice
    have HR1 : Hid (Rw entK (fun k => w.heap.size ≤ k ∧ k < w1.heap.size) w1 (.slice ra (seenR s rs).length rc) (seenR s rs)) := hr1.mono fun k hk e => ⟨e.resolve_left id, hk⟩
    have HC := Lib.hid hc
    rw [hc]
    have hll : (seenR s rs).length ≤ 100000 := Nat.le_trans (seenGo_len _ _ _) (Nat.le_trans (allOf_len rs) HO.out.sum)
    clear hc hr1 hz1
    generalize hLL : seenR s rs = l at *
    have HLL := Lib.hid hLL
    clear hLL
    obtain ⟨m, hm⟩ : ∃ m, l.length = m := ⟨_, rfl⟩
    have HM := Lib.hid hm
    rw [hm] at HR1 hll
    rw [hm]
    clear hm
    go_wp2_with fail
    go_loopw [14, 28] (fun ov iv wr => ∃ (j : Nat), iv = .int .i64 (j : Int) ∧ j ≤ m ∧ Hid (ROwnF entK (fun k => w.heap.size ≤ k ∧ k < w1.heap.size) w1.heap.size 29 wr ov (btw f t n (l.take j))) ∧ Hid (Below w1.heap.size w1 wr)) (fun _ iv _ => m - (intOf iv).toNat)
    case atStart => exact ⟨0, rfl, by omega, by show ROwnF _ _ _ _ _ _ _; rw [show btw f t n (l.take 0) = [] by simp [btw, lim]]; exact ROwnF.nil _ _ _ _ _, Below.refl _ _⟩
    case round =>
      obtain ⟨j, rfl, hj, HRO, HB⟩ := hrel
      obtain ⟨oo, oc, rfl⟩ := HRO.out.isSlice
      by_cases hlt : j < m
      · have hjl : (j : Int) < (m : Int) := by omega
        have hl1 : j < l.length := by rw [HM.out]; omega
        obtain ⟨ba, oa, capa, ea, _, hba, hca⟩ := ents_at (HR1.out.below HB.out) (by omega)
        injection ea with e1 e2 e3
        subst e1 e3
        clear e2
        obtain ⟨vk, vv, hk, hv, c0, c1, c2, c3⟩ := hca j hl1
        rw [eat_eq hl1] at hk hv c1 c2
        obtain ⟨ka, kc, rfl⟩ := hk.isSlice
        obtain ⟨va, vc, rfl⟩ := hv.isSlice
        have HTK : Hid (btw f t n (l.take (j + 1)) = if ((btw f t n (l.take j)).length : Int) < n ∧ inR f t (eat l j) = true then btw f t n (l.take j) ++ [eat l j] else btw f t n (l.take j)) := by
          show _ = _
          rw [List.take_succ_eq_append_getElem hl1, eat_eq hl1]
          exact btw_snoc _ _ _ _ _
        have HLen : Hid ((btw f t n (l.take j)).length < 1000000) := by have := btw_len f t n (l.take j); rw [List.length_take] at this; show _ < _; omega
        clear hca hba hl1
        generalize eat l j = e at *
        generalize btw f t n (l.take j) = out at *
        obtain ⟨q, hq⟩ : ∃ q, out.length = q := ⟨_, rfl⟩
        have HQ := Lib.hid hq
        rw [hq] at HRO
        rw [hq]
        clear hq
        go_upto_region 8 with fail
        refine wp_gen fun w2 hw2 => ?_
        have HW2 : Hid (Below wr.heap.size wr w2) := by rw [hw2]; exact (Below.refl _ _).alloc (Nat.le_refl _) _
        have HE1 : Hid (Blk w2 wr.heap.size (entCells e (.slice ka e.key.length kc) (.slice va e.value.length vc)).toArray 29) := by rw [hw2]; exact Blk.at_new rfl rfl
        have HK2 : Hid (Bytes (fun k => w.heap.size ≤ k ∧ k < w1.heap.size) w2 (.slice ka e.key.length kc) e.key) := hk.below HW2.out
        have HV2 : Hid (Bytes (fun k => w.heap.size ≤ k ∧ k < w1.heap.size) w2 (.slice va e.value.length vc) e.value) := hv.below HW2.out
        have HRO2 := Lib.hid (HRO.out.below HW2.out)
        have HB3 : Hid (Below w1.heap.size w1 w2) := HB.out.trans (HW2.out.mono HB.out.size)
        clear hw2 hk hv c0 c1 c2 c3 HRO HB HW2
        have k0 : w2.cell? ⟨wr.heap.size, 0, none⟩ = some (.slice ka e.key.length kc) := HE1.out.cell rfl
        obtain ⟨r, hr⟩ : ∃ r : Bool, r = decide ((q : Int) < n ∧ inR f t e = true) := ⟨_, rfl⟩
        have HR := Lib.hid hr
        clear hr
        have HFX : Hid (Bytes Gf w2 (.slice fa f.length fc) f) := HF.out.below (HW1.out.trans (HB3.out.mono HW1.out.size))
        have HTX : Hid (Bytes Gt w2 (.slice ta t.length tc) t) := HT.out.below (HW1.out.trans (HB3.out.mono HW1.out.size))
        go_cut [54] from 32 to 53 (fun x wx => x = .bool r ∧ w2 = wx)
        case first =>
          by_cases h1 : (q : Int) < n
          · cases h2 : Op.bytesLess e.key f with
            | true =>
              have hx : r = false := by rw [HR.out]; simp [inR, h2]
              have h3 : ¬ 0 ≤ Ent.bcmp e.key f := by rw [bcmp_ge, h2]; simp
              subst hx
              clear h2
              generalize hbb : Ent.bcmp e.key f = bb at *
              have HBB := Lib.hid hbb
              clear hbb
              go_wp2_with fail
              refine Calls.mono (bytesCompare_any _ _ _ _ e.key f _ HK2.out HFX.out) ?_
              rintro _ w3 ⟨rfl, rfl⟩
              rw [HBB.out]
              go_wp2_with fail
              go_meet
              exact ⟨rfl, rfl⟩
            | false =>
              have h3 : 0 ≤ Ent.bcmp e.key f := by rw [bcmp_ge, h2]
              have hx : r = (decide (t.length = 0) || Op.bytesLess e.key t) := by rw [HR.out]; simp [inR, h2, h1]
              have HX := Lib.hid hx
              clear h2 hx
              generalize hbb : Ent.bcmp e.key f = bb at *
              have HBB := Lib.hid hbb
              clear hbb
              by_cases h4 : t.length = 0
              · have hr : r = true := by rw [HX.out]; simp [h4]
                subst hr
                have h5 : ((t.length : Int) == 0) = true := beq_iff_eq.2 (by omega)
                clear h4
                go_wp2_with fail
                refine Calls.mono (bytesCompare_any _ _ _ _ e.key f _ HK2.out HFX.out) ?_
                rintro _ w3 ⟨rfl, rfl⟩
                rw [HBB.out]
                go_wp2_with fail
                go_meet
                exact ⟨rfl, rfl⟩
              · have hr : r = decide (Ent.bcmp e.key t < 0) := by
                  rw [HX.out]
                  simp only [h4, decide_false, Bool.false_or]
                  cases h6 : Op.bytesLess e.key t with
                  | true => exact (decide_eq_true (bcmp_lt.2 h6)).symm
                  | false => exact (decide_eq_false (fun h => by rw [bcmp_lt, h6] at h; cases h)).symm
                have HRX := Lib.hid hr
                clear hr
                have h5 : ((t.length : Int) == 0) = false := beq_eq_false_iff_ne.2 (by omega)
                clear h4
                go_wp2_with fail
                refine Calls.mono (bytesCompare_any _ _ _ _ e.key f _ HK2.out HFX.out) ?_
                rintro _ w3 ⟨rfl, rfl⟩
                rw [HBB.out]
                go_wp2_with fail
                refine Calls.mono (bytesCompare_any _ _ _ _ e.key t _ HK2.out HTX.out) ?_
                rintro _ w4 ⟨rfl, rfl⟩
                generalize Ent.bcmp e.key t = cc at *
                by_cases h7 : cc < 0
                · have : r = true := by rw [HRX.out]; simpa using h7
                  subst this
                  go_wp2_with fail
                  go_meet
                  exact ⟨rfl, rfl⟩
                · have : r = false := by rw [HRX.out]; simpa using h7
                  subst this
                  go_wp2_with fail
                  go_meet
                  exact ⟨congrArg Value.bool (decide_eq_false (by omega)), rfl⟩
          · have hx : r = false := by rw [HR.out]; simp [h1]
            subst hx
            go_wp2_with fail
            go_meet
            exact ⟨rfl, rfl⟩
        case rest =>
          obtain ⟨rfl, rfl⟩ := hcut
          cases r with
          | true =>
            have HS : Hid ((q : Int) < n ∧ inR f t e = true) := by show _ ∧ _; exact of_decide_eq_true HR.out.symm
            have k1 : w2.cell? ⟨wr.heap.size, 1, none⟩ = some (.int .u64 e.seq) := HE1.out.cell rfl
            have k2 : w2.cell? ⟨wr.heap.size, 2, none⟩ = some (.int .i64 e.kind) := HE1.out.cell rfl
            have k3 : w2.cell? ⟨wr.heap.size, 3, none⟩ = some (.slice va e.value.length vc) := HE1.out.cell rfl
            have HBS : Hid (w1.heap.size ≤ w1.heap.size) := Nat.le_refl _
            have HFF : Hid (∀ k, (w.heap.size ≤ k ∧ k < w1.heap.size) → (w.heap.size ≤ k ∧ k < w1.heap.size)) := fun k h => h
            have HLOW : Hid (∀ k, (w.heap.size ≤ k ∧ k < w1.heap.size) → k < w1.heap.size) := fun k h => h.2
            go_wp2_with (with_reducible refine pause_append ?_)
            refine list_gen fun w3 hw3 => ?_
            have HB4 : Hid (Below w2.heap.size w2 w3) := by rw [hw3]; exact (Below.refl _ _).alloc (Nat.le_refl _) _
            have HS3 : Hid (Blk w3 w2.heap.size (entCells e (.slice ka e.key.length kc) (.slice va e.value.length vc)).toArray 29) := by rw [hw3]; exact Blk.at_new rfl rfl
            clear hw3 k0 k1 k2 k3
            have HT3 : Hid (Below w1.heap.size w1 w3) := HB3.out.trans (HB4.out.mono HB3.out.size)
            have HRO3 := Lib.hid (HRO2.out.below HB4.out)
            rw [← HQ.out]
            rw [← HQ.out] at HRO3
            refine Pause.go (wpList_append_elF (K := entK) 31 29 _ 64 Try.underlying31 info_entO rfl (fun k => w.heap.size ≤ k ∧ k < w1.heap.size) w1.heap.size (.slice oo out.length oc) out w2.heap.size 29 _ e rfl _ _ rfl rfl rfl HRO3.out HS3.out
              ⟨_, _, rfl, (HK2.out.below HB4.out).mono fun j _ hj => ⟨HFF.out j hj, fun e1 => by have := (HRO3.out.lt j e1).1; have := HLOW.out j hj; omega⟩, (HV2.out.below HB4.out).mono fun j _ hj => ⟨HFF.out j hj, fun e1 => by have := (HRO3.out.lt j e1).1; have := HLOW.out j hj; omega⟩⟩ HLen.out (by decide) (Nat.le_trans HBS.out HT3.out.size) ?_)
            intro v4 w4 hro hg
            have HRO4 : Hid (ROwnF entK (fun k => w.heap.size ≤ k ∧ k < w1.heap.size) w1.heap.size 29 w4 v4 (btw f t n (l.take (j + 1)))) := by rw [HTK.out, HQ.out, if_pos HS.out]; exact hro
            have HB5 : Hid (Below w1.heap.size w1 w4) := HT3.out.trans (hg.below HT3.out.size fun k e0 => (HRO3.out.lt k e0).1)
            clear hro hg HRO3 HRO2 HS3 HK2 HV2
            go_wp2_with fail
            go_roundw
            · exact ⟨j + 1, by go_num, by omega, HRO4.out, HB5.out⟩
            · simp only [intOf]; omega
          | false =>
            have HS : Hid (¬ ((q : Int) < n ∧ inR f t e = true)) := by show ¬ (_ ∧ _); exact of_decide_eq_false HR.out.symm
            have HRO4 : Hid (ROwnF entK (fun k => w.heap.size ≤ k ∧ k < w1.heap.size) w1.heap.size 29 w2 (.slice oo q oc) (btw f t n (l.take (j + 1)))) := by rw [HTK.out, HQ.out, if_neg HS.out]; exact HRO2.out
            clear HRO2
            go_wp2_with fail
            go_roundw
            · exact ⟨j + 1, by go_num, by omega, HRO4.out, HB3.out⟩
            · simp only [intOf]; omega
      · have hjl : ¬ (j : Int) < (m : Int) := by omega
        have HD : Hid (SeenPost (fun _ => False) (btw f t n l) rs w (.returned (.tuple #[.slice oo (btw f t n (l.take j)).length oc, .int .i64 0])) wr) := by
          refine ⟨_, by rw [HC.out], fun _ => ?_, fun e => absurd HC.out e, HW1.out.trans (HB.out.mono HW1.out.size)⟩
          have h5 := HRO.out
          rw [List.take_of_length_le (by rw [HM.out]; omega)] at h5 ⊢
          refine h5.rows.mono fun k _ hk => .inr ?_
          have := HW1.out.size
          rcases hk with hk | hk
          · have := (h5.lt k hk).1; omega
          · exact hk.1.1
        clear HRO
        generalize (btw f t n (l.take j)).length = q at *
        go_wp2_with fail
        go_ret2
        rw [HLL.out]
        exact HD.out
  · have HC := Lib.hid hc
    have hz := hz1 (by rw [hc]; decide)
    subst hz
    have HP : Hid (SeenPost (fun _ => False) (btw f t n (seenR s rs)) rs w (.returned (.tuple #[.slice none 0 0, .int .i64 2])) w1) := ⟨_, by rw [HC.out], (fun e => by rw [HC.out] at e; cases e), fun _ => rfl, HW1.out⟩
    rw [hc]
    clear hc hr1 hz1
    go_wp2_with fail
    go_ret2
    exact HP.out
end Go.Proofs.Ytmpapipobjoboaa
