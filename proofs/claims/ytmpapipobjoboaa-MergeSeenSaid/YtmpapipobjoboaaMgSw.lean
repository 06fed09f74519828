/- Merge: seen, Seen. -/
import Derived.Test.YtmpapipobjoboaaMgSn
namespace Go.Proofs.Ytmpapipobjoboaa
open Go.RowKit

theorem seen_take {s : Int} {l : List Ent} {j : Nat} (h : j < l.length) : seenGo s none (l.take (j + 1)) = seenGo s none (l.take j) ++ seenGo s (seenD s none (l.take j)) [eat l j] ∧ seenD s none (l.take (j + 1)) = seenD s (seenD s none (l.take j)) [eat l j] := by
  rw [List.take_succ_eq_append_getElem h, eat_eq h]
  exact ⟨seenGo_append _ _ _ _, seenD_append _ _ _ _⟩

/-- The key that was told last, as it lies in memory. -/
structure Told (F : Nat → Prop) (w : World) (dv : Value) (b : Bool) (d : Option (List UInt8)) : Prop where
  ex : ∃ k, Bytes F w dv k ∧ d = if b = true then some k else none
theorem Told.below {F : Nat → Prop} {w w' : World} {dv : Value} {b : Bool} {d : Option (List UInt8)} (h : Told F w dv b d) (hb : Below w.heap.size w w') : Told F w' dv b d := by
  obtain ⟨k, h1, h2⟩ := h.ex
  exact ⟨k, h1.below hb, h2⟩

set_option maxRecDepth 100000 in
set_option maxHeartbeats 2000000 in
theorem mseenIn_any (F : Nat → Prop) (v : Value) (l : List Ent) (s : Int) (w : World) (hA : Rw entK F w v l) (hfew : l.length ≤ 100000) :
    Calls Try.prog 61 #[.int .u64 s, v] w fun x w' => ∃ v', x = .returned v' ∧ Rw entK (fun k => F k ∨ w.heap.size ≤ k) w' v' (seenOf s l) ∧ Below w.heap.size w w' := by
  obtain ⟨aa, ac, rfl⟩ := hA.isSlice
  have HA : Hid (Rw entK (fun k => F k ∧ k < w.heap.size) w (.slice aa l.length ac) l) := hA.mono fun k hk h => ⟨h, hk⟩
  clear hA
  obtain ⟨n, hn⟩ : ∃ n, l.length = n := ⟨_, rfl⟩
  have HN := Lib.hid hn
  rw [hn] at HA hfew
  rw [hn]
  clear hn
  go_enter Try.func61, Try.ntmps61
  go_wp2_with fail
  go_loopw [5, 6, 7, 12] (fun ov dv sv iv wr => ∃ (j : Nat) (b : Bool) (dn dc : Nat) (da : Option Addr), iv = .int .i64 (j : Int) ∧ j ≤ n ∧ sv = .bool b ∧ dv = .slice da dn dc ∧ Hid (Told (fun k => F k ∧ k < w.heap.size) wr (.slice da dn dc) b (seenD s none (l.take j))) ∧ Hid (ROwnF entK (fun k => F k ∧ k < w.heap.size) w.heap.size 29 wr ov (seenGo s none (l.take j))) ∧ Hid (Below w.heap.size w wr)) (fun _ _ _ iv _ => n - (intOf iv).toNat)
  case atStart => exact ⟨0, false, 0, 0, none, rfl, by omega, rfl, rfl, ⟨[], Bytes.nil _ _, rfl⟩, ROwnF.nil _ _ _ _ _, Below.refl _ _⟩
  case round =>
    obtain ⟨j, b, dn, dc, da, rfl, hj, rfl, rfl, HD, HRO, HB⟩ := hrel
    obtain ⟨oo, oc, rfl⟩ := HRO.out.isSlice
    by_cases hlt : j < n
    · have hjl : (j : Int) < (n : Int) := by omega
      have hl1 : j < l.length := by rw [HN.out]; omega
      obtain ⟨ba, oa, capa, ea, _, hba, hca⟩ := ents_at (HA.out.below HB.out) (by omega)
      injection ea with e1 e2 e3
      subst e1 e3
      clear e2
      obtain ⟨vk, vv, hk, hv, c0, c1, c2, c3⟩ := hca j hl1
      rw [eat_eq hl1] at hk hv c1 c2
      obtain ⟨ka, kc, rfl⟩ := hk.isSlice
      obtain ⟨va, vc, rfl⟩ := hv.isSlice
      have HT := Lib.hid (seen_take (s := s) hl1)
      have HLen : Hid ((seenGo s none (l.take j)).length < 1000000) := by have := seenGo_len s (l.take j) none; rw [List.length_take] at this; show _ < _; omega
      clear hca hba hl1
      generalize eat l j = e at *
      generalize seenGo s none (l.take j) = out at *
      generalize seenD s none (l.take j) = d at *
      go_upto_region 7 with fail
      refine wp_gen fun w1 hw1 => ?_
      have HW1 : Hid (Below wr.heap.size wr w1) := by rw [hw1]; exact (Below.refl _ _).alloc (Nat.le_refl _) _
      have HE1 : Hid (Blk w1 wr.heap.size (entCells e (.slice ka e.key.length kc) (.slice va e.value.length vc)).toArray 29) := by rw [hw1]; exact Blk.at_new rfl rfl
      have HK1 : Hid (Bytes (fun k => F k ∧ k < w.heap.size) w1 (.slice ka e.key.length kc) e.key) := hk.below HW1.out
      have HV1 : Hid (Bytes (fun k => F k ∧ k < w.heap.size) w1 (.slice va e.value.length vc) e.value) := hv.below HW1.out
      have HD1 := Lib.hid (HD.out.below HW1.out)
      have HRO1 := Lib.hid (HRO.out.below HW1.out)
      have HB1 : Hid (Below w.heap.size w w1) := HB.out.trans (HW1.out.mono HB.out.size)
      clear hw1 hk hv c0 c1 c2 c3 HD HRO HB HW1
      have k0 : w1.cell? ⟨wr.heap.size, 0, none⟩ = some (.slice ka e.key.length kc) := HE1.out.cell rfl
      have k1 : w1.cell? ⟨wr.heap.size, 1, none⟩ = some (.int .u64 e.seq) := HE1.out.cell rfl
      obtain ⟨hid, hh⟩ : ∃ hid : Bool, hid = decide (s < e.seq ∨ d = some e.key) := ⟨_, rfl⟩
      have HH := Lib.hid hh
      clear hh
      go_cut [28] from 16 to 27 (fun x wx => x = .bool hid ∧ ∃ n, wx = w1.drewN n)
      case first =>
        by_cases h1 : s < e.seq
        · have hx : hid = true := by rw [HH.out]; simp [h1]
          subst hx
          go_wp2_with fail
          go_meet
          exact ⟨rfl, 0, rfl⟩
        · cases b with
          | false =>
            have hd : d = none := by obtain ⟨_, _, h⟩ := HD1.out.ex; exact h
            have hx : hid = false := by rw [HH.out, hd]; simp [h1]
            subst hx
            clear hd
            go_wp2_with fail
            go_meet
            exact ⟨rfl, 0, rfl⟩
          | true =>
            obtain ⟨k, hk, hd⟩ := HD1.out.ex
            have hx : hid = decide (k = e.key) := by rw [HH.out, hd]; simp [h1]
            have HK := Lib.hid hk
            have HX := Lib.hid hx
            clear hk hd hx
            go_wp2_with fail
            refine Calls.mono (equal_any _ _ _ _ k e.key _ HK.out HK1.out) ?_
            rintro _ w2 ⟨rfl, hn2⟩
            rw [← HX.out]
            have HN2 := Lib.hid hn2
            clear hn2
            go_wp2_with fail
            go_meet
            exact ⟨rfl, HN2.out⟩
      case rest =>
        obtain ⟨rfl, hn2⟩ := hcut
        have HB2 : Hid (Below w1.heap.size w1 wc) := below_drewN hn2
        clear hn2 k0 k1
        have HB3 : Hid (Below w.heap.size w wc) := HB1.out.trans (HB2.out.mono HB1.out.size)
        have HRO2 := Lib.hid (HRO1.out.below HB2.out)
        have HD2 := Lib.hid (HD1.out.below HB2.out)
        have HE2 := Lib.hid (HE1.out.below HB2.out HE1.out.lt)
        have HK2 := Lib.hid (HK1.out.below HB2.out)
        have HV2 := Lib.hid (HV1.out.below HB2.out)
        clear HB1 HB2 HRO1 HD1 HE1 HK1 HV1
        cases hid with
        | true =>
          have HS : Hid (s < e.seq ∨ d = some e.key) := by show s < e.seq ∨ d = some e.key; exact of_decide_eq_true HH.out.symm
          go_wp2_with fail
          go_roundw
          · exact ⟨j + 1, b, dn, dc, da, by go_num, by omega, rfl, rfl, by rw [HT.out.2, seenD_one, if_pos HS.out]; exact HD2.out, by rw [HT.out.1, seenGo_one, if_pos HS.out, List.append_nil]; exact HRO2.out, HB3.out⟩
          · simp only [intOf]; omega
        | false =>
          have HS : Hid (¬ (s < e.seq ∨ d = some e.key)) := by show ¬ (s < e.seq ∨ d = some e.key); exact of_decide_eq_false HH.out.symm
          have HD3 : Hid (Told (fun k => F k ∧ k < w.heap.size) wc (.slice ka e.key.length kc) true (seenD s none (l.take (j + 1)))) := by rw [HT.out.2, seenD_one, if_neg HS.out]; exact ⟨e.key, HK2.out, rfl⟩
          have k0 : wc.cell? ⟨wr.heap.size, 0, none⟩ = some (.slice ka e.key.length kc) := HE2.out.cell rfl
          have k1 : wc.cell? ⟨wr.heap.size, 1, none⟩ = some (.int .u64 e.seq) := HE2.out.cell rfl
          have k2 : wc.cell? ⟨wr.heap.size, 2, none⟩ = some (.int .i64 e.kind) := HE2.out.cell rfl
          have k3 : wc.cell? ⟨wr.heap.size, 3, none⟩ = some (.slice va e.value.length vc) := HE2.out.cell rfl
          by_cases hk1 : e.kind = 1
          · have hkb : (e.kind == 1) = true := beq_iff_eq.2 hk1
            have HKD := Lib.hid hk1
            clear hk1
            go_wp2_with (with_reducible refine pause_append ?_)
            refine list_gen fun w3 hw3 => ?_
            have HB4 : Hid (Below wc.heap.size wc w3) := by rw [hw3]; exact (Below.refl _ _).alloc (Nat.le_refl _) _
            have HS3 : Hid (Blk w3 wc.heap.size (entCells e (.slice ka e.key.length kc) (.slice va e.value.length vc)).toArray 29) := by rw [hw3]; exact Blk.at_new rfl rfl
            clear hw3 k0 k1 k2 k3 hkb
            have HT3 : Hid (Below w.heap.size w w3) := HB3.out.trans (HB4.out.mono HB3.out.size)
            have HRO3 := Lib.hid (HRO2.out.below HB4.out)
            refine Pause.go (wpList_append_elF (K := entK) 31 29 _ 64 Try.underlying31 info_entO rfl (fun k => F k ∧ k < w.heap.size) w.heap.size (.slice oo out.length oc) out wc.heap.size 29 _ e rfl _ _ rfl rfl rfl HRO3.out HS3.out
              ⟨_, _, rfl, (HK2.out.below HB4.out).mono fun j _ hj => ⟨hj, fun e1 => by have := (HRO3.out.lt j e1).1; omega⟩, (HV2.out.below HB4.out).mono fun j _ hj => ⟨hj, fun e1 => by have := (HRO3.out.lt j e1).1; omega⟩⟩ HLen.out (by decide) HT3.out.size ?_)
            intro v4 w4 hro hg
            have HRO4 : Hid (ROwnF entK (fun k => F k ∧ k < w.heap.size) w.heap.size 29 w4 v4 (seenGo s none (l.take (j + 1)))) := by rw [HT.out.1, seenGo_one, if_neg HS.out, if_pos HKD.out]; exact hro
            have HB5 : Hid (Below w.heap.size w w4) := HT3.out.trans (hg.below HT3.out.size fun k e0 => (HRO3.out.lt k e0).1)
            have HD4 : Hid (Told (fun k => F k ∧ k < w.heap.size) w4 (.slice ka e.key.length kc) true (seenD s none (l.take (j + 1)))) := by
              obtain ⟨k, g1, g2⟩ := (HD3.out.below HB4.out).ex
              exact ⟨k, g1.keep fun q hq hF => hg.grown.block q hq fun e0 => by have := (HRO3.out.lt q e0.symm).1; omega, g2⟩
            clear hro hg HRO3 HRO2 HS3 HK2 HV2 HD3 HD2
            go_wp2_with fail
            go_roundw
            · exact ⟨j + 1, true, e.key.length, kc, ka, by go_num, by omega, rfl, rfl, HD4.out, HRO4.out, HB5.out⟩
            · simp only [intOf]; omega
          · have hkb : (e.kind == 1) = false := beq_eq_false_iff_ne.2 hk1
            have HKD := Lib.hid hk1
            clear hk1
            go_wp2_with fail
            go_roundw
            · exact ⟨j + 1, true, e.key.length, kc, ka, by go_num, by omega, rfl, rfl, HD3.out, by rw [HT.out.1, seenGo_one, if_neg HS.out, if_neg HKD.out, List.append_nil]; exact HRO2.out, HB3.out⟩
            · simp only [intOf]; omega
    · have hjl : ¬ (j : Int) < (n : Int) := by omega
      have HF : Hid (Rw entK (fun k => F k ∨ w.heap.size ≤ k) wr (.slice oo (seenGo s none (l.take j)).length oc) (seenOf s l)) := by
        have h5 := HRO.out.rows
        rw [List.take_of_length_le (by rw [HN.out]; omega)] at h5 ⊢
        exact h5.mono fun k _ hk => by
          rcases hk with hk | hk
          · exact .inr (by
              have h6 := HRO.out
              rw [List.take_of_length_le (by rw [HN.out]; omega)] at h6
              exact (h6.lt k hk).1)
          · exact .inl hk.1.1
      clear HRO HD
      generalize (seenGo s none (l.take j)).length = q at *
      go_wp2_with fail
      go_ret
      exact ⟨_, rfl, HF.out, HB.out⟩

def seenR (s : Int) (rs : List (List Ent)) : List Ent := seenOf s (allOf rs)
def SeenPost (F : Nat → Prop) (l : List Ent) (rs : List (List Ent)) (w : World) (x : Ending) (w' : World) : Prop :=
  ∃ v', x = .returned (.tuple #[v', .int .i64 (chkR rs)]) ∧ (chkR rs = 0 → Rw entK (fun k => F k ∨ w.heap.size ≤ k) w' v' l) ∧ (chkR rs ≠ 0 → v' = .slice none 0 0) ∧ Below w.heap.size w w'

set_option maxRecDepth 100000 in
theorem mseen_any (F : Nat → Prop) (v : Value) (rs : List (List Ent)) (s : Int) (w : World) (h : Rw (rowK entK) F w v rs) (hok : ROk rs) :
    Calls Try.prog 25 #[v, .int .u64 s] w (SeenPost (fun _ => False) (seenR s rs) rs w) := by
  obtain ⟨xa, ca, rfl⟩ := h.isSlice
  have HA := Lib.hid h
  have HO := Lib.hid hok
  clear h hok
  go_enter Try.func25, Try.ntmps25
  go_wp2_with fail
  refine Calls.mono (mall_any F _ rs _ HA.out HO.out) ?_
  rintro _ w1 ⟨v1, rfl, hr1, hb1⟩
  obtain ⟨ra, rc, rfl⟩ := hr1.isSlice
  have HW1 := Lib.hid hb1
  have HR1 := Lib.hid hr1
  clear hb1 hr1
  rcases chkR_or rs with hc | hc
  · have HC := Lib.hid hc
    have HE : Hid (refAll rs = allOf rs) := by show _ = _; unfold refAll; rw [if_pos HC.out]
    have HLA : Hid ((allOf rs).length ≤ 100000) := Nat.le_trans (allOf_len rs) HO.out.sum
    rw [hc, HE.out]
    rw [HE.out] at HR1
    clear hc
    go_wp2_with fail
    refine Calls.mono (mseenIn_any _ _ _ s _ HR1.out HLA.out) ?_
    rintro _ w2 ⟨v2, rfl, hr2, hb2⟩
    have HP : Hid (SeenPost (fun _ => False) (seenR s rs) rs w (.returned (.tuple #[v2, .int .i64 0])) w2) := by
      refine ⟨v2, by rw [HC.out], fun _ => hr2.mono fun k _ e => .inr ?_, fun e => absurd HC.out e, HW1.out.trans (hb2.mono HW1.out.size)⟩
      have := HW1.out.size
      rcases e with (e | e) | e
      · cases e
      · exact e
      · omega
    clear hr2 hb2
    go_wp2_with fail
    go_ret2
    exact HP.out
  · have HC := Lib.hid hc
    rw [hc]
    clear hc
    have HP : Hid (SeenPost (fun _ => False) (seenR s rs) rs w (.returned (.tuple #[.slice none 0 0, .int .i64 2])) w1) := ⟨_, by rw [HC.out], (fun e => by rw [HC.out] at e; cases e), fun _ => rfl, HW1.out⟩
    go_wp2_with fail
    go_ret2
    exact HP.out
end Go.Proofs.Ytmpapipobjoboaa
