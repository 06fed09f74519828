/- bootprintref07: SizeOf, Steps, From. -/
import Derived.Test.YtdjjkdhhjdafmaaRf07B
namespace Go.Proofs.Ytdjjkdhhjdafmaa
open Go.RowKit

theorem sizes_take {l : List Ent} {j : Nat} (h : j < l.length) : ((l.take (j + 1)).map entSize).sum = ((l.take j).map entSize).sum + entSize l[j] := by
  rw [List.take_succ_eq_append_getElem h, List.map_append, List.sum_append]
  simp
theorem sizes_take_le (l : List Ent) (j : Nat) : ((l.take j).map entSize).sum ≤ (l.map entSize).sum := by
  have h : (l.map entSize).sum = ((l.take j).map entSize).sum + ((l.drop j).map entSize).sum := by
    rw [← List.sum_append, ← List.map_append, List.take_append_drop]
  omega

set_option maxRecDepth 100000 in
set_option maxHeartbeats 1000000 in
theorem rfSize_any (F : Nat → Prop) (v : Value) (l : List Ent) (w : World) (h : Rw entK F w v l) (hsum : (l.map entSize).sum ≤ 1000000000000) :
    Calls Try.prog 29 #[v] w fun e w' => e = .returned (.int .i64 ((l.map entSize).sum : Int)) ∧ ∃ n, w' = w.drewN n := by
  obtain ⟨xa, ca, rfl⟩ := h.isSlice
  have HA := Lib.hid h
  have hml := h.len
  simp only [maxLen] at hml
  have HWL := Lib.hid hsum
  clear h hsum
  go_enter Try.func29, Try.ntmps29
  go_wp2_with fail
  go_loopw [3, 4] (fun s i wr => ∃ (j c : Nat), i = .int .i64 (j : Int) ∧ j ≤ l.length ∧ s = .int .i64 (c : Int) ∧ Hid (c = ((l.take j).map entSize).sum) ∧ Hid (∃ n, wr = w.drewN n)) (fun _ i _ => l.length - (intOf i).toNat)
  case atStart => exact ⟨0, 0, rfl, by omega, rfl, rfl, 0, rfl⟩
  case round =>
    obtain ⟨j, c, rfl, hj, rfl, HC, HW⟩ := hrel
    by_cases hlt : j < l.length
    · have hjl : (j : Int) < (l.length : Int) := by omega
      have hwc : ∀ a, wr.cell? a = w.cell? a := fun a => by obtain ⟨n, h⟩ := HW.out; rw [h]; rfl
      obtain ⟨ba, oa, capa, ea, _, hba, hca⟩ := ents_at HA.out (by omega)
      injection ea with e1 e2 e3
      subst e1 e3
      clear e2
      obtain ⟨k1, v1, hk1, hv1, c0, _, _, c3⟩ := hca j hlt
      obtain ⟨k1a, k1c, rfl⟩ := hk1.isSlice
      obtain ⟨v1a, v1c, rfl⟩ := hv1.isSlice
      have c0 := (hwc _).trans c0
      have c3 := (hwc _).trans c3
      have HC2 := sizes_take hlt
      have hb1 := sizes_take_le l (j + 1)
      rw [HC2, ← HC.out] at hb1
      unfold entSize at hb1
      have hb2 := HWL.out
      unfold entSize at hb2
      have HCn : Hid (c + (l[j].key.length + l[j].value.length + 32) = ((l.take (j + 1)).map entSize).sum) := by rw [HC.out]; exact HC2.symm
      clear hwc hca hk1 hv1 HC2
      generalize l[j] = s at *
      generalize hx : s.key.length = x at *
      generalize hy : s.value.length = y at *
      have hxy : c + (x + y + 32) ≤ 1000000000000 := by omega
      have w1 : IntKind.i64.wrap ((c : Int) + (x : Int)) = (c : Int) + (x : Int) := wrap_small (by omega) (by omega)
      have w2 : IntKind.i64.wrap ((c : Int) + (x : Int) + (y : Int)) = (c : Int) + (x : Int) + (y : Int) := wrap_small (by omega) (by omega)
      have w3 : IntKind.i64.wrap ((c : Int) + (x : Int) + (y : Int) + 32) = (c : Int) + (x : Int) + (y : Int) + 32 := wrap_small (by omega) (by omega)
      clear hb1 hb2 hx hy
      go_wp2_with fail
      go_quiet (fail)
      all_goals
        clear w1 w2 w3
        go_wp2_with fail
        go_roundw
        · exact ⟨j + 1, c + (x + y + 32), by go_num, by omega, int_eq (by omega), HCn, (by first | exact HW.out | exact drewN_one HW.out | exact drewN_more HW.out _)⟩
        · simp only [intOf]; omega
    · have hjl : decide ((j : Int) < (l.length : Int)) = false := by simp; omega
      have HF : Hid (c = (l.map entSize).sum) := by have := HC.out; rwa [List.take_of_length_le (by omega)] at this
      go_wp2_with fail
      go_ret
      exact ⟨congrArg (fun n : Nat => Ending.returned (.int .i64 (n : Int))) HF.out, HW.out⟩

/-- Towers, their heights alone. -/
def bare (hs : List Nat) : List Tw := hs.map fun h => ⟨0, noEnt, h⟩
def hsteps (L : Nat) (hs : List Nat) : Nat := stepsOf L (bare hs)
theorem hsteps_zero (hs : List Nat) : hsteps 0 hs = 0 := by unfold hsteps stepsOf; rfl
theorem hsteps_move {L : Nat} {l1 : List Nat} {t : Nat} {l2 : List Nat} (h1 : ∀ y ∈ l1, ¬ L < y) (ht : L < t) : hsteps (L + 1) (l1 ++ t :: l2) = 1 + hsteps (L + 1) l2 := by
  unfold hsteps bare
  rw [List.map_append, List.map_cons]
  exact stepsOf_move (fun y hy => by obtain ⟨z, hz, rfl⟩ := List.mem_map.1 hy; exact h1 z hz) ht
theorem hsteps_down {L : Nat} {l : List Nat} (h : ∀ y ∈ l, ¬ L < y) : hsteps (L + 1) l = 1 + hsteps L l := by
  unfold hsteps bare
  exact stepsOf_down fun y hy => by obtain ⟨z, hz, rfl⟩ := List.mem_map.1 hy; exact h z hz
theorem hsteps_le (L : Nat) (l : List Nat) : hsteps L l ≤ L + l.length := by
  unfold hsteps bare
  have := stepsOf_le L (l.map fun h => (⟨0, noEnt, h⟩ : Tw))
  rwa [List.length_map] at this

theorem getD_lt {l : List Nat} {k : Nat} (h : k < l.length) : l.getD k 0 = l[k] := by simp [List.getD, h]
theorem steps_found {hs : List Nat} {n a j L : Nat} (hn : n ≤ hs.length) (haj : a ≤ j) (hj : j < n) (hlow : ∀ k, a ≤ k → k < j → ¬ L < hs.getD k 0) (ht : L < hs.getD j 0) : hsteps (L + 1) ((hs.take n).drop a) = 1 + hsteps (L + 1) ((hs.take n).drop (j + 1)) := by
  have hjl : j < (hs.take n).length := by rw [List.length_take]; omega
  have e : (hs.take n).drop a = ((hs.take n).drop a).take (j - a) ++ hs.getD j 0 :: (hs.take n).drop (j + 1) := by
    have h1 := (List.take_append_drop (j - a) ((hs.take n).drop a)).symm
    rw [List.drop_drop, show a + (j - a) = j by omega, List.drop_eq_getElem_cons hjl, List.getElem_take, ← getD_lt] at h1
    exact h1
  rw [e]
  refine hsteps_move (fun y hy => ?_) ht
  obtain ⟨i, hi, rfl⟩ := List.getElem_of_mem hy
  rw [List.length_take, List.length_drop, List.length_take] at hi
  rw [List.getElem_take, List.getElem_drop, List.getElem_take, ← getD_lt]
  exact hlow _ (by omega) (by omega)
theorem steps_none {hs : List Nat} {n a L : Nat} (hn : n ≤ hs.length) (hlow : ∀ k, a ≤ k → k < n → ¬ L < hs.getD k 0) : hsteps (L + 1) ((hs.take n).drop a) = 1 + hsteps L ((hs.take n).drop a) := by
  refine hsteps_down fun y hy => ?_
  obtain ⟨i, hi, rfl⟩ := List.getElem_of_mem hy
  rw [List.length_drop, List.length_take] at hi
  rw [List.getElem_drop, List.getElem_take, ← getD_lt]
  exact hlow _ (by omega) (by omega)

set_option maxRecDepth 100000 in
set_option maxHeartbeats 2000000 in
theorem rfSteps_any (p : Nat → Prop) (rb : Nat) (es : List Ent) (hs : List Nat) (hlen : hs.length = es.length) (hfew : es.length ≤ 1000000) (hhs : ∀ x ∈ hs, x ≤ 12) (G : Nat → Prop) (key : List UInt8) (seq : Int) (vk : Value) (w : World) (h : RfT p w rb es hs) (hk : Bytes G w vk key) :
    Calls Try.prog 32 #[.pointer (some ⟨rb, 0, none⟩), vk, .int .u64 seq] w fun x w' => x = .returned (.int .i64 (hsteps 12 (hs.take (placeOf (plc key seq) es)) : Int)) ∧ Below w.heap.size w w' := by
  obtain ⟨ka, kc, rfl⟩ := hk.isSlice
  have HI := Lib.hid h
  have HK := Lib.hid hk
  clear h hk
  have hpl := placeOf_le (plc key seq) es
  obtain ⟨r, hr⟩ : ∃ r, hsteps 12 (hs.take (placeOf (plc key seq) es)) = r := ⟨_, rfl⟩
  rw [hr]
  go_enter Try.func32, Try.ntmps32
  go_wp2_with fail
  refine Calls.mono (place_any p rb es hs _ key seq _ w HI.out HK.out) ?_
  rintro _ w1 ⟨rfl, hb1⟩
  have HW1 := Lib.hid hb1
  obtain ⟨_, _, ah, ch, _, k1, _, hrh⟩ := (HI.out.below hb1).cells
  clear hb1 HI HK
  generalize placeOf (plc key seq) es = n at *
  have HRH := Lib.hid hrh
  have hnh : n ≤ hs.length := by omega
  have hhl : hs.length ≤ 1000000 := by omega
  have hrl : r ≤ 1000012 := by have := hsteps_le 12 (hs.take n); rw [List.length_take, hr] at this; omega
  have HR : Hid (0 + hsteps 12 ((hs.take n).drop 0) = r) := by show _ = _; rw [Nat.zero_add]; exact hr
  have HHS := Lib.hid hhs
  clear hr hrh hhs hlen hpl hfew
  go_wp2_with fail
  go_loopw [8, 9, 10, 11] (fun sv av lv nv wr => ∃ (s a L : Nat), sv = .int .i64 (s : Int) ∧ av = .int .i64 ((a : Int) - 1) ∧ lv = .int .i64 (L : Int) ∧ a ≤ n ∧ L ≤ 12 ∧ s ≤ r ∧ Hid (s + hsteps L ((hs.take n).drop a) = r) ∧ wr = w1) (fun _ _ lv _ _ => (intOf lv).toNat)
  case atStart => exact ⟨0, 0, 12, rfl, rfl, rfl, by omega, by omega, by omega, HR, rfl⟩
  case round =>
    clear HR
    obtain ⟨s, a, L, rfl, rfl, rfl, ha, hL, hsr, HS, rfl⟩ := hrel
    cases L with
    | zero =>
      have hg : ¬ (1 : Int) ≤ ((0 : Nat) : Int) := by omega
      have HF : Hid ((s : Int) = (r : Int)) := by have := HS.out; rw [hsteps_zero] at this; show _ = _; omega
      go_wp2_with fail
      go_ret
      exact ⟨ret_int HF.out, HW1.out⟩
    | succ L =>
      have hg : (1 : Int) ≤ ((L + 1 : Nat) : Int) := by omega
      go_wp2_with fail
      go_loopw [8, 9, 11] (fun sv av nv wr' => ∃ (s a : Nat), sv = .int .i64 (s : Int) ∧ av = .int .i64 ((a : Int) - 1) ∧ a ≤ n ∧ s ≤ r ∧ Hid (s + hsteps (L + 1) ((hs.take n).drop a) = r) ∧ wr' = wr) (fun _ av _ _ => n - (intOf av + 1).toNat)
      case atStart => exact ⟨s, a, rfl, rfl, ha, hsr, HS, rfl⟩
      case round =>
        clear HS
        clear ha hsr
        obtain ⟨s, a, rfl, rfl, ha, hsr, HS, rfl⟩ := hrel
        have hw1 : IntKind.i64.wrap ((a : Int) - 1 + 1) = (a : Int) := by rw [wrap_small (by omega) (by omega)]; omega
        go_wp2_with fail
        go_loopw [11] (fun nv wr' => ∃ (j : Nat), nv = .int .i64 (j : Int) ∧ a ≤ j ∧ j ≤ n ∧ Hid (∀ k, a ≤ k → k < j → ¬ L < hs.getD k 0) ∧ wr' = wr) (fun nv _ => n - (intOf nv).toNat)
        case atStart => exact ⟨a, int_eq (by omega), Nat.le_refl _, ha, (fun k h1 h2 => by omega), rfl⟩
        case round =>
          clear hw1
          obtain ⟨j, rfl, haj, hjn, HLO, rfl⟩ := hrel
          by_cases hj : j < n
          · have hjl : (j : Int) < (n : Int) := by omega
            have hnj : ¬ (n : Int) ≤ (j : Int) := by omega
            obtain ⟨hb0, ho, hc, e1, hbl, hcs⟩ := nats_at HRH.out (by omega)
            injection e1 with e1 _ e3
            subst e1 e3
            have c0 := hcs j (by omega)
            rw [← getD_lt] at c0
            have hjh : (j : Int) < (hs.length : Int) := by omega
            have HSF : Hid (L < hs.getD j 0 → hsteps (L + 1) ((hs.take n).drop a) = 1 + hsteps (L + 1) ((hs.take n).drop (j + 1))) := fun ht => steps_found hnh haj hj HLO.out ht
            have HLN : Hid (¬ L < hs.getD j 0 → ∀ k, a ≤ k → k < j + 1 → ¬ L < hs.getD k 0) := fun hn k h1 h2 => by
              by_cases hk : k = j
              · rw [hk]; exact hn
              · exact HLO.out k h1 (by omega)
            clear hcs hbl
            generalize hs.getD j 0 = x at *
            by_cases hlx : L < x
            · have hcx : ¬ (x : Int) < ((L + 1 : Nat) : Int) := by omega
              have hcx2 : ¬ x < L + 1 := by omega
              have hst := HSF.out hlx
              have hsum := HS.out
              rw [hst] at hsum
              have HS2 : Hid ((s + 1) + hsteps (L + 1) ((hs.take n).drop (j + 1)) = r) := by show _ = _; omega
              have hs1 : s + 1 ≤ r := by omega
              clear HSF HLN hst hsum HS HLO hlx
              go_wp2_with fail
              go_roundw
              · exact ⟨s + 1, j + 1, by go_num, int_eq (by omega), by omega, by omega, HS2, trivial⟩
              · simp only [intOf]; omega
            · have hcx : (x : Int) < ((L + 1 : Nat) : Int) := by omega
              have hcx2 : x < L + 1 := by omega
              have HLO2 := Lib.hid (HLN.out hlx)
              clear HSF HLN HLO hlx
              go_wp2_with fail
              go_roundw
              · exact ⟨j + 1, by go_num, by omega, by omega, HLO2, trivial⟩
              · simp only [intOf]; omega
          · have hjl : ¬ (j : Int) < (n : Int) := by omega
            have hnj : (n : Int) ≤ (j : Int) := by omega
            have hst := steps_none (L := L) hnh (fun k h1 h2 => HLO.out k h1 (by omega))
            have hsum := HS.out
            rw [hst] at hsum
            have HS2 : Hid ((s + 1) + hsteps L ((hs.take n).drop a) = r) := by show _ = _; omega
            have hs1 : s + 1 ≤ r := by omega
            clear hst hsum HS HLO
            go_wp2_with fail
            go_roundw
            · exact ⟨s + 1, a, L, by go_num, rfl, int_eq (by omega), ha, by omega, by omega, HS2, trivial⟩
            · simp only [intOf]; omega

/-- The first entries from a key on. -/
def refFrom (key : List UInt8) (n : Int) (es : List Ent) : List Ent := (es.filter fun e => !Op.bytesLess e.key key).take n.toNat
theorem from_step {key : List UInt8} {N j : Nat} {es : List Ent} (hj : j < es.length) (hl : (((es.take j).filter fun e => !Op.bytesLess e.key key).take N).length < N) :
    ((es.take (j + 1)).filter fun e => !Op.bytesLess e.key key).take N = ((es.take j).filter fun e => !Op.bytesLess e.key key).take N ++ (if Op.bytesLess es[j].key key = true then [] else [es[j]]) := by
  rw [List.length_take] at hl
  have h1 : ((es.take j).filter fun e => !Op.bytesLess e.key key).length < N := by omega
  rw [List.take_succ_eq_append_getElem hj, List.filter_append]
  cases hb : Op.bytesLess es[j].key key with
  | true => simp [hb]
  | false =>
    simp only [List.filter_cons, hb, Bool.not_false, if_true, List.filter_nil, Bool.false_eq_true, if_false]
    generalize (es.take j).filter (fun e => !Op.bytesLess e.key key) = f at *
    rw [List.take_of_length_le (l := f) (i := N) (by omega), List.take_of_length_le (by rw [List.length_append, List.length_singleton]; omega)]
theorem from_full {key : List UInt8} {N j : Nat} {es : List Ent} (hl : N ≤ (((es.take j).filter fun e => !Op.bytesLess e.key key).take N).length) :
    ((es.take j).filter fun e => !Op.bytesLess e.key key).take N = (es.filter fun e => !Op.bytesLess e.key key).take N := by
  rw [List.length_take] at hl
  have h1 : es.filter (fun e => !Op.bytesLess e.key key) = (es.take j).filter (fun e => !Op.bytesLess e.key key) ++ (es.drop j).filter (fun e => !Op.bytesLess e.key key) := by
    rw [← List.filter_append, List.take_append_drop]
  rw [h1, List.take_append_of_le_length (by omega)]

set_option maxRecDepth 100000 in
set_option maxHeartbeats 2000000 in
theorem rfFrom_any (p : Nat → Prop) (rb : Nat) (es : List Ent) (hs : List Nat) (hfew : es.length < 1000000) (G : Nat → Prop) (key : List UInt8) (n : Int) (vk : Value) (w : World) (h : RfT p w rb es hs) (hk : Bytes G w vk key) :
    Calls Try.prog 34 #[.pointer (some ⟨rb, 0, none⟩), vk, .int .i64 n] w fun x w' => ∃ v, x = .returned v ∧ Rw entK (fun k => p k ∨ w.heap.size ≤ k) w' v (refFrom key n es) ∧ Below w.heap.size w w' := by
  obtain ⟨ka, kc, rfl⟩ := hk.isSlice
  have HI := Lib.hid (h.mono (q := fun k => p k ∧ k < w.heap.size) fun k hk hp => ⟨hp, hk⟩)
  have HK := Lib.hid hk
  clear h hk
  obtain ⟨N, hN⟩ : ∃ N, n.toNat = N := ⟨_, rfl⟩
  obtain ⟨r, hr⟩ : ∃ r, refFrom key n es = r := ⟨_, rfl⟩
  rw [hr]
  unfold refFrom at hr
  rw [hN] at hr
  have HR := Lib.hid hr
  have HN := Lib.hid hN
  clear hr hN
  go_enter Try.func34, Try.ntmps34
  go_wp2_with fail
  go_loopw [7, 8] (fun ov iv wr => ∃ (j : Nat) (out : List Ent), iv = .int .i64 (j : Int) ∧ j ≤ es.length ∧ out.length ≤ j ∧ Hid (out = ((es.take j).filter fun e => !Op.bytesLess e.key key).take N) ∧ Hid (ROwnF entK (fun k => p k ∧ k < w.heap.size) w.heap.size 34 wr ov out) ∧ Hid (Below w.heap.size w wr)) (fun _ iv _ => es.length - (intOf iv).toNat)
  case atStart => exact ⟨0, [], rfl, by omega, by simp, (by show _ = _; simp), ROwnF.nil _ _ _ _ _, Below.refl _ _⟩
  case round =>
    obtain ⟨j, out, rfl, hj, hoj, HO, HRO, HB⟩ := hrel
    obtain ⟨oa, oc, rfl⟩ := HRO.out.isSlice
    have HIr := Lib.hid (HI.out.below HB.out)
    obtain ⟨a, c, ah, ch, k0, _, hrw, _⟩ := HIr.out.cells
    have HRW := Lib.hid hrw
    clear hrw
    have HROW : Hid (Rw entK (fun k => p k ∨ w.heap.size ≤ k) wr (.slice oa out.length oc) out) := HRO.out.rows.mono fun k _ hk => by
      rcases hk with hk | hk
      · exact .inr (HRO.out.lt k hk).1
      · exact .inl hk.1.1
    by_cases hlt : j < es.length
    · have hjl : (j : Int) < (es.length : Int) := by omega
      by_cases hon : (out.length : Int) < n
      · have HSTEP := Lib.hid (from_step (key := key) (N := N) hlt (by have := HO.out; have := HN.out; rw [← HO.out]; omega))
        obtain ⟨vb0, vo, vc, e1, _, hvb, hcs⟩ := ents_at HRW.out (by omega)
        injection e1 with e1 _ e3
        subst e1 e3
        obtain ⟨ke, ve, hke, hve, c0, c1, c2, c3⟩ := hcs j hlt
        obtain ⟨kea, kec, rfl⟩ := hke.isSlice
        obtain ⟨vea, vec, rfl⟩ := hve.isSlice
        have HKE := Lib.hid hke
        have HVE := Lib.hid hve
        have HC : Hid (C4o vb0 (vo + j * 4) es[j] (.slice kea es[j].key.length kec) (.slice vea es[j].value.length vec) wr) := ⟨c0, c1, c2, c3⟩
        have HVB : Hid (vb0 < wr.heap.size) := hvb
        have HST2 : Hid (∀ b, Op.bytesLess es[j].key key = b → ((es.take (j + 1)).filter fun e => !Op.bytesLess e.key key).take N = out ++ (if b = true then [] else [es[j]])) := fun b hb => by subst hb; rw [HO.out]; exact HSTEP.out
        clear hcs hke hve hvb HSTEP
        generalize es[j] = e at *
        go_wp2_with fail
        refine Calls.mono (rbefore_any _ _ _ e.key _ key wr HKE.out (HK.out.below HB.out)) ?_
        rintro _ w2 ⟨rfl, hn2⟩
        have hb2 := below_drewN hn2
        have HB2 : Hid (Below w.heap.size w w2) := HB.out.trans (hb2.mono HB.out.size)
        have HRO2 := Lib.hid (HRO.out.below hb2)
        obtain ⟨c0, c1, c2, c3⟩ := HC.out.keep hb2 HVB.out
        have k0 := (World.cell?_of_block (a := ⟨rb, 0, none⟩) (hb2.block rb HIr.out.lt)).trans k0
        have HKE2 := Lib.hid (HKE.out.below hb2)
        have HVE2 := Lib.hid (HVE.out.below hb2)
        have HLT2 : Hid (rb < w2.heap.size ∧ vb0 < w2.heap.size) := ⟨Nat.lt_of_lt_of_le HIr.out.lt hb2.size, Nat.lt_of_lt_of_le HVB.out hb2.size⟩
        clear hb2 hn2 HRO HB HC HVB HRW HIr HKE HVE HROW
        cases hb : Op.bytesLess e.key key with
        | true =>
          have HO2 : Hid (out = ((es.take (j + 1)).filter fun e => !Op.bytesLess e.key key).take N) := by show _ = _; rw [HST2.out _ hb]; simp
          clear HST2 hb
          go_wp2_with fail
          go_roundw
          · exact ⟨j + 1, out, by go_num, by omega, by omega, HO2, HRO2, HB2⟩
          · simp only [intOf]; omega
        | false =>
          have HO2 : Hid (out ++ [e] = ((es.take (j + 1)).filter fun e => !Op.bytesLess e.key key).take N) := by show _ = _; rw [HST2.out _ hb]; simp
          clear HST2 hb
          go_wp2_with (with_reducible refine pause_append ?_)
          refine list_gen fun w3 hw3 => ?_
          have HB3 : Hid (Below w2.heap.size w2 w3) := by rw [hw3]; exact (Below.refl _ _).alloc (Nat.le_refl _) _
          have HS3 : Hid (Blk w3 w2.heap.size (entCells e (.slice kea e.key.length kec) (.slice vea e.value.length vec)).toArray 34) := by rw [hw3]; exact Blk.at_new rfl rfl
          clear hw3 c0 c1 c2 c3
          have HRO3 := Lib.hid (HRO2.out.below HB3.out)
          have HW3 : Hid (Below w.heap.size w w3) := HB2.out.trans (HB3.out.mono HB2.out.size)
          have HNO : Hid (∀ k, k < w.heap.size → (Value.slice oa out.length oc).ownBlock ≠ some k) := fun k hk e0 => by
            have h1 := (HRO3.out.lt k e0).1
            omega
          refine Pause.go (wpList_append_elF (K := entK) 22 34 _ 64 Try.underlying22 info_entry rfl (fun k => p k ∧ k < w.heap.size) w.heap.size (.slice oa out.length oc) out w2.heap.size 34 _ e rfl _ _ rfl rfl rfl HRO3.out HS3.out
            ⟨_, _, rfl, (HKE2.out.below HB3.out).mono fun k _ hk => ⟨hk.1, HNO.out k hk.1.2⟩, (HVE2.out.below HB3.out).mono fun k _ hk => ⟨hk.1, HNO.out k hk.1.2⟩⟩ (by omega) (by decide) HW3.out.size ?_)
          intro v4 w4 hro hg
          have HRO4 := Lib.hid hro
          have HB4 : Hid (Below w.heap.size w w4) := HW3.out.trans (hg.below HW3.out.size fun k e0 => (HRO3.out.lt k e0).1)
          clear hro hg HRO3 HRO2 HS3 HNO
          go_wp2_with fail
          go_roundw
          · exact ⟨j + 1, out ++ [e], by go_num, by omega, (by rw [List.length_append, List.length_singleton]; omega), HO2, HRO4, HB4⟩
          · simp only [intOf]; omega
      · have HF : Hid (r = out) := by
          show _ = _
          rw [← HR.out, HO.out]
          exact (from_full (by rw [← HO.out]; have := HN.out; omega)).symm
        go_wp2_with fail
        go_ret
        rw [HF.out]
        exact ⟨_, rfl, HROW.out, HB.out⟩
    · have hjl : ¬ (j : Int) < (es.length : Int) := by omega
      have HF : Hid (r = out) := by
        show _ = _
        rw [← HR.out, HO.out, show es.take j = es from List.take_of_length_le (by omega)]
      go_wp2_with fail
      go_ret
      rw [HF.out]
      exact ⟨_, rfl, HROW.out, HB.out⟩
end Go.Proofs.Ytdjjkdhhjdafmaa
