/- Chapter 11's law: own, small. -/
import Derived.Test.YtmpapipobjoboaaMgF
namespace Go.Proofs.Ytmpapipobjoboaa
open Go.RowKit

/-- A row of one's own, as a thing of one cell. -/
def orowK : Kind (List Ent) where
  sz := 1
  R F w cs l := ∃ u, cs = [u] ∧ ∃ base, ROwnF ownK F base 29 w u l ∧ ∀ k, u.ownBlock = some k → F k
  pos := by decide
  len := by rintro F w cs x ⟨u, rfl, _⟩; rfl
  keep := by
    rintro F w w' cs x ⟨u, rfl, base, h1, h2⟩ hk
    exact ⟨u, rfl, base, h1.keep fun k hl e => hk k hl (by rcases e with e | e; exact h2 k e; exact e.1), h2⟩
  mono := by
    rintro F F' w cs x ⟨u, rfl, base, h1, h2⟩ hk
    exact ⟨u, rfl, base, h1.mono fun k hl e _ => hk k hl e, fun k e => hk k (h1.lt k e).2 (h2 k e)⟩
  one := by
    rintro F w cs x ⟨u, rfl, base, h1, h2⟩ y hy
    rw [List.mem_singleton.1 hy]
    obtain ⟨a, c, rfl⟩ := h1.isSlice
    rfl

theorem orowR {F : Nat → Prop} {w : World} {cs : List Value} {x : List Ent} (h : orowK.R F w cs x) : (rowK entK).R F w cs x := by
  obtain ⟨u, rfl, base, h1, h2⟩ := h
  exact ⟨u, rfl, (ownRw h1.rows).mono fun k _ e => by rcases e with e | e; exact h2 k e; exact e.1⟩
theorem orowEls {F : Nat → Prop} {w : World} : ∀ {l : List (List Ent)} {cs : List Value}, Els orowK F w cs l → Els (rowK entK) F w cs l
  | [], _, h => h
  | _ :: _, _, h => ⟨orowR h.1, orowEls h.2⟩
theorem orowRw {F : Nat → Prop} {w : World} {v : Value} {l : List (List Ent)} (h : Rw orowK F w v l) : Rw (rowK entK) F w v l := by
  obtain ⟨cs, h1, h2⟩ := h
  exact ⟨cs, h1, orowEls h2⟩
theorem ROwnF.ge {α : Type} {K : Kind α} {N e : Nat} {w : World} {v : Value} {xs : List α} (h : ROwnF K (fun k => N ≤ k) N e w v xs) : Rw K (fun k => N ≤ k) w v xs := h.rows.mono fun k _ hk => by
  rcases hk with hk | hk
  · exact (h.lt k hk).1
  · exact hk.1

theorem info_row : (Try.prog.info? 31).map (fun i => (i.zero, i.size, i.bytes)) = some (some (.slice none 0 0), orowK.sz, 24) := by kernel_rfl

set_option maxRecDepth 100000 in
set_option maxHeartbeats 1000000 in
theorem own11_any (F : Nat → Prop) (v : Value) (rs : List (List Ent)) (w : World) (h : Rw (rowK entK) F w v rs) (hok : ROk rs) :
    Calls Try.prog 17 #[v] w fun e w' => ∃ v', e = .returned v' ∧ ROwnF orowK (fun k => w.heap.size ≤ k) w.heap.size 31 w' v' rs ∧ Below w.heap.size w w' := by
  obtain ⟨xa, ca, rfl⟩ := h.isSlice
  have HA := Lib.hid h
  have HO := Lib.hid hok
  have hfew := hok.few
  clear h hok
  obtain ⟨n, hn⟩ : ∃ n, rs.length = n := ⟨_, rfl⟩
  have HN := Lib.hid hn
  rw [hn] at HA hfew
  rw [hn]
  clear hn
  go_enter Try.func17, Try.ntmps17
  go_wp2_with fail
  go_loopw [3, 4] (fun ov iv wr => ∃ (j : Nat), iv = .int .i64 (j : Int) ∧ j ≤ n ∧ Hid (ROwnF orowK (fun k => w.heap.size ≤ k) w.heap.size 31 wr ov (rs.take j)) ∧ Hid (Below w.heap.size w wr)) (fun _ iv _ => n - (intOf iv).toNat)
  case atStart => exact ⟨0, rfl, by omega, ROwnF.nil _ _ _ _ _, Below.refl _ _⟩
  case round =>
    obtain ⟨j, rfl, hj, HRO, HB⟩ := hrel
    obtain ⟨oo, oc, rfl⟩ := HRO.out.isSlice
    by_cases hlt : j < n
    · have t1 : (j : Int) < (n : Int) := by omega
      have hl1 : j < rs.length := by rw [HN.out]; omega
      obtain ⟨ba, oa, capa, ea, _, hba, hca⟩ := rows_at (HA.out.below HB.out) (by omega)
      obtain ⟨u, hu, hc⟩ := hca j hl1
      injection ea with e1 e2 e3
      subst e1 e3
      clear e2
      have HL := Lib.hid (HO.out.len (List.getElem_mem hl1))
      have HBG := Lib.hid (HO.out.big _ (List.getElem_mem hl1))
      have HT : Hid (rs.take (j + 1) = rs.take j ++ [rs.getD j []]) := by show _ = _; rw [List.take_succ_eq_append_getElem hl1, rat_eq hl1]
      have HLen : Hid ((rs.take j).length < 1000000) := by show _ < _; rw [List.length_take]; omega
      rw [rat_eq hl1] at hu HL HBG
      obtain ⟨ua, uc, rfl⟩ := hu.isSlice
      have HU := Lib.hid hu
      clear hca hu hba hl1
      generalize rs.getD j [] = r at *
      generalize rs.take j = out at *
      obtain ⟨q, hq⟩ : ∃ q, out.length = q := ⟨_, rfl⟩
      have HQ := Lib.hid hq
      rw [hq] at HRO
      rw [hq]
      clear hq
      go_wp2_with fail
      refine Calls.mono (ownEntriesO_any _ _ r _ HU.out (by have := HL.out; omega) HBG.out) ?_
      rintro _ w2 ⟨v2, rfl, hr2, hb2⟩
      obtain ⟨a2, c2, rfl⟩ := hr2.isSlice
      have HR2 := Lib.hid hr2
      have HB2 := Lib.hid hb2
      clear hr2 hb2 hc
      go_wp2_with (with_reducible refine pause_append ?_)
      refine list_gen fun w3 hw3 => ?_
      have HB3 : Hid (Below w2.heap.size w2 w3) := by rw [hw3]; exact (Below.refl _ _).alloc (Nat.le_refl _) _
      have HS3 : Hid (Blk w3 w2.heap.size #[.slice a2 r.length c2] 31) := by rw [hw3]; exact Blk.at_new rfl rfl
      clear hw3
      have HT3 : Hid (Below w.heap.size w w3) := (HB.out.trans (HB2.out.mono HB.out.size)).trans (HB3.out.mono (Nat.le_trans HB.out.size HB2.out.size))
      have HRO3 := Lib.hid ((HRO.out.below HB2.out).below HB3.out)
      have HLT : Hid (∀ k, (Value.slice oo q oc).ownBlock = some k → k < wr.heap.size) := fun k e => (HRO.out.lt k e).2
      rw [← HQ.out]
      rw [← HQ.out] at HRO3 HLT
      refine Pause.go (wpList_append_elF (K := orowK) 22 31 _ 24 Try.underlying22 info_row rfl (fun k => w.heap.size ≤ k) w.heap.size (.slice oo out.length oc) out w2.heap.size 31 _ r rfl _ _ rfl rfl rfl HRO3.out HS3.out
        ⟨_, rfl, wr.heap.size, (HR2.out.below HB3.out).mono fun k _ hk _ => ⟨Nat.le_trans HB.out.size hk, fun e1 => by have := HLT.out k e1; omega⟩, fun k e => ⟨Nat.le_trans HB.out.size (HR2.out.lt k e).1, fun e1 => by have := HLT.out k e1; have := (HR2.out.lt k e).1; omega⟩⟩ HLen.out (by decide) HT3.out.size ?_)
      intro v4 w4 hro hg
      have HRO4 : Hid (ROwnF orowK (fun k => w.heap.size ≤ k) w.heap.size 31 w4 v4 (rs.take (j + 1))) := by rw [HT.out]; exact hro
      have HB4 : Hid (Below w.heap.size w w4) := HT3.out.trans (hg.below HT3.out.size fun k e0 => (HRO3.out.lt k e0).1)
      clear hro hg HRO3 HRO HS3 HLT
      go_wp2_with fail
      go_roundw
      · exact ⟨j + 1, by go_num, by omega, HRO4.out, HB4.out⟩
      · simp only [intOf]; omega
    · have t1 : ¬ (j : Int) < (n : Int) := by omega
      have HF : Hid (ROwnF orowK (fun k => w.heap.size ≤ k) w.heap.size 31 wr (.slice oo (rs.take j).length oc) rs) := by
        have h5 := HRO.out
        rw [List.take_of_length_le (by rw [HN.out]; omega)] at h5 ⊢
        exact h5
      clear HRO
      generalize (rs.take j).length = q at *
      go_wp2_with fail
      go_ret
      exact ⟨_, rfl, HF.out, HB.out⟩

/-- How many bytes some entries have, as a sum that may wrap. -/
def weighW (l : List Ent) : Int := l.foldl (fun c e => IntKind.i64.wrap (IntKind.i64.wrap (c + (e.key.length : Int)) + (e.value.length : Int))) 0
theorem weighW_take {l : List Ent} {j : Nat} (h : j < l.length) : weighW (l.take (j + 1)) = IntKind.i64.wrap (IntKind.i64.wrap (weighW (l.take j) + (l[j].key.length : Int)) + (l[j].value.length : Int)) := by
  rw [List.take_succ_eq_append_getElem h]
  unfold weighW
  rw [List.foldl_append]
  rfl
theorem w64_eq (x : Int) : RowKit.wrap64 x = IntKind.i64.wrap x := by unfold RowKit.wrap64; simp [IntKind.wrap, IntKind.signed, IntKind.bits]; omega
theorem wrap_mid {x : Int} (h0 : -1000000000000000000 ≤ x) (h1 : x ≤ 1000000000000000000) : IntKind.i64.wrap x = x := by
  rw [← w64_eq]; unfold RowKit.wrap64; omega
theorem weighW_eq {l : List Ent} (hl : l.length ≤ 1000) (hb : ∀ e ∈ l, e.key.length ≤ 140737488355328 ∧ e.value.length ≤ 140737488355328) : weighW l = (weighE l : Int) := by
  have key : ∀ j, j ≤ l.length → weighW (l.take j) = (weighE (l.take j) : Int) ∧ weighE (l.take j) ≤ j * (2 * 140737488355328) := by
    intro j
    induction j with
    | zero => intro _; exact ⟨rfl, Nat.zero_le _⟩
    | succ j ih =>
      intro hj
      obtain ⟨h1, h2⟩ := ih (by omega)
      have h3 := hb l[j] (List.getElem_mem (by omega))
      have h4 : j * (2 * 140737488355328) ≤ 1000 * (2 * 140737488355328) := Nat.mul_le_mul_right _ (by omega)
      rw [weighW_take (by omega), weigh_take (by omega), h1, Nat.add_mul]
      refine ⟨?_, by omega⟩
      rw [wrap_mid (x := (weighE (l.take j) : Int) + (l[j].key.length : Int)) (by omega) (by omega), wrap_mid (by omega) (by omega)]
      omega
  have := (key l.length (Nat.le_refl _)).1
  rwa [List.take_of_length_le (Nat.le_refl _)] at this

set_option maxRecDepth 100000 in
set_option maxHeartbeats 1000000 in
theorem kweighW_any (F : Nat → Prop) (v : Value) (l : List Ent) (w : World) (h : Rw entK F w v l) :
    Calls Try.prog 28 #[v] w fun e w' => e = .returned (.int .i64 (weighW l)) ∧ ∃ n, w' = w.drewN n := by
  obtain ⟨xa, ca, rfl⟩ := h.isSlice
  have HA := Lib.hid h
  have hml := h.len
  simp only [maxLen] at hml
  clear h
  go_enter Try.func28, Try.ntmps28
  go_wp2_with fail
  go_loopw [3, 4] (fun s i wr => ∃ (j : Nat) (c : Int), i = .int .i64 (j : Int) ∧ j ≤ l.length ∧ s = .int .i64 c ∧ Hid (c = weighW (l.take j)) ∧ Hid (∃ n, wr = w.drewN n)) (fun _ i _ => l.length - (intOf i).toNat)
  case atStart => exact ⟨0, 0, rfl, by omega, rfl, rfl, 0, rfl⟩
  case round =>
    obtain ⟨j, c, rfl, hj, rfl, HC, HW⟩ := hrel
    by_cases hlt : j < l.length
    · have hjl : (j : Int) < (l.length : Int) := by omega
      have hwc : ∀ a, wr.cell? a = w.cell? a := fun a => by obtain ⟨n, h⟩ := HW.out; rw [h]; rfl
      obtain ⟨ba, oa, capa, ea, _, hba, hca⟩ := ents_at HA.out (by omega)
      injection ea with e1 e2 e3
      subst e1 e3
      clear e2
      obtain ⟨vk, vv, hk, hv, c0, _, _, c3⟩ := hca j hlt
      obtain ⟨k1a, k1c, rfl⟩ := hk.isSlice
      obtain ⟨v1a, v1c, rfl⟩ := hv.isSlice
      have c0 := (hwc _).trans c0
      have c3 := (hwc _).trans c3
      have HCn : Hid (IntKind.i64.wrap (IntKind.i64.wrap (c + (l[j].key.length : Int)) + (l[j].value.length : Int)) = weighW (l.take (j + 1))) := by show _ = _; rw [weighW_take hlt, HC.out]
      clear hwc hca hk hv HC
      generalize l[j] = s at *
      generalize s.key.length = x at *
      generalize s.value.length = y at *
      go_wp2_with fail
      go_quiet (fail)
      all_goals
        go_wp2_with fail
        go_roundw
        · exact ⟨j + 1, _, by go_num, by omega, rfl, (by first | exact HCn | (simp only [w64_eq]; exact HCn.out)), (by first | exact HW.out | exact drewN_one HW.out | exact drewN_more HW.out _)⟩
        · simp only [intOf]; omega
    · obtain rfl : j = l.length := by omega
      have HF : Hid (c = weighW l) := by have := HC.out; rwa [List.take_of_length_le (Nat.le_refl _)] at this
      clear HC
      go_wp2_with fail
      go_ret
      exact ⟨ret_int HF.out, HW.out⟩

def nsum (rs : List (List Ent)) : Nat := (rs.map List.length).sum
def wsum (rs : List (List Ent)) : Nat := (rs.map weighE).sum
theorem nsum_take {rs : List (List Ent)} {j : Nat} (h : j < rs.length) : nsum (rs.take (j + 1)) = nsum (rs.take j) + (rs.getD j []).length := by
  unfold nsum
  rw [List.take_succ_eq_append_getElem h, rat_eq h, List.map_append, List.sum_append]
  simp
theorem wsum_take {rs : List (List Ent)} {j : Nat} (h : j < rs.length) : wsum (rs.take (j + 1)) = wsum (rs.take j) + weighE (rs.getD j []) := by
  unfold wsum
  rw [List.take_succ_eq_append_getElem h, rat_eq h, List.map_append, List.sum_append]
  simp
theorem nsum_take_le (rs : List (List Ent)) (j : Nat) : nsum (rs.take j) ≤ nsum rs := by
  unfold nsum; rw [List.map_take]; exact sum_take _ _
theorem wsum_bound {rs : List (List Ent)} (hb : ∀ r ∈ rs, ∀ e ∈ r, e.key.length ≤ 140737488355328 ∧ e.value.length ≤ 140737488355328) : wsum rs ≤ nsum rs * (2 * 140737488355328) := by
  induction rs with
  | nil => exact Nat.zero_le _
  | cons r rs ih =>
    have h1 := ih fun x hx => hb x (List.mem_cons_of_mem _ hx)
    have h2 := weigh_le (hb r (List.mem_cons_self ..))
    unfold wsum nsum at *
    simp only [List.map_cons, List.sum_cons]
    rw [Nat.add_mul]
    omega

/-- What small tells, if it is true. -/
structure Small (rs : List (List Ent)) : Prop where
  rows : rs.length ≤ 20
  few : nsum rs ≤ 150
  light : wsum rs ≤ 15000
def Near (rs : List (List Ent)) : Prop := ∀ r ∈ rs, r.length ≤ 140737488355328 ∧ ∀ e ∈ r, e.key.length ≤ 140737488355328 ∧ e.value.length ≤ 140737488355328
theorem Small.ok {rs : List (List Ent)} (h : Small rs) (hn : Near rs) : ROk rs := ⟨Nat.le_trans h.rows (by decide), Nat.le_trans h.few (by decide), fun r hr => (hn r hr).2⟩

def SmallB (p : Prop) (w : World) (e : Ending) (w' : World) : Prop := ∃ b, e = .returned (.bool b) ∧ (b = true → p) ∧ ∃ n, w' = w.drewN n

set_option maxRecDepth 100000 in
set_option maxHeartbeats 1000000 in
theorem small11_any (F : Nat → Prop) (v : Value) (rs : List (List Ent)) (w : World) (h : Rw (rowK entK) F w v rs) (hn : Near rs) :
    Calls Try.prog 16 #[v] w (SmallB (Small rs) w) := by
  obtain ⟨xa, ca, rfl⟩ := h.isSlice
  have HA := Lib.hid h
  have HNE := Lib.hid hn
  have hml := h.len
  simp only [maxLen] at hml
  clear h hn
  obtain ⟨n, hn⟩ : ∃ n, rs.length = n := ⟨_, rfl⟩
  have HN := Lib.hid hn
  rw [hn] at HA hml
  rw [hn]
  clear hn
  go_enter Try.func16, Try.ntmps16
  go_wp2_with fail
  go_loopw [3, 4, 5] (fun s t i wr => ∃ (j : Nat) (c d : Int), i = .int .i64 (j : Int) ∧ j ≤ n ∧ s = .int .i64 c ∧ t = .int .i64 d ∧ Hid (j ≤ 20 → c = nsum (rs.take j)) ∧ Hid (j ≤ 20 → nsum (rs.take j) ≤ 150 → d = wsum (rs.take j)) ∧ Hid (∃ n, wr = w.drewN n)) (fun _ _ i _ => n - (intOf i).toNat)
  case atStart => exact ⟨0, 0, 0, rfl, by omega, rfl, rfl, fun _ => rfl, fun _ _ => rfl, 0, rfl⟩
  case round =>
    obtain ⟨j, c, d, rfl, hj, rfl, rfl, HC, HD, HW⟩ := hrel
    by_cases hlt : j < n
    · have hjl : (j : Int) < (n : Int) := by omega
      have hl1 : j < rs.length := by rw [HN.out]; omega
      have HB : Hid (Below w.heap.size w wr) := below_drewN HW.out
      obtain ⟨ba, oa, capa, ea, _, hba, hca⟩ := rows_at (HA.out.below HB.out) (by omega)
      obtain ⟨u, hu, hc⟩ := hca j hl1
      injection ea with e1 e2 e3
      subst e1 e3
      clear e2
      have HM := Lib.hid (HNE.out _ (List.getElem_mem hl1))
      have HNT := Lib.hid (nsum_take hl1)
      have HWT := Lib.hid (wsum_take hl1)
      have HTN : Hid (Near (rs.take (j + 1))) := fun r hr => HNE.out r (List.mem_of_mem_take hr)
      have HLL : Hid ((rs.take (j + 1)).length = j + 1) := by show _ = _; rw [List.length_take]; omega
      rw [rat_eq hl1] at hu HM
      obtain ⟨ua, uc, rfl⟩ := hu.isSlice
      have HU := Lib.hid hu
      clear hca hu hba hl1
      generalize rs.getD j [] = r at *
      have HCn : Hid (j + 1 ≤ 20 → IntKind.i64.wrap (c + (r.length : Int)) = nsum (rs.take (j + 1))) := fun h20 => by
        have h1 := HC.out (by omega)
        have h2 : nsum (rs.take (j + 1)) ≤ (rs.take (j + 1)).length * 140737488355328 := by
          have : ∀ l : List (List Ent), Near l → nsum l ≤ l.length * 140737488355328 := by
            intro l
            induction l with
            | nil => intro _; exact Nat.zero_le _
            | cons x l ih =>
              intro hx
              have g1 := ih fun y hy => hx y (List.mem_cons_of_mem _ hy)
              have g2 := (hx x (List.mem_cons_self ..)).1
              unfold nsum at *
              simp only [List.map_cons, List.sum_cons, List.length_cons]
              rw [Nat.add_mul]
              omega
          exact this _ HTN.out
        rw [HLL.out] at h2
        have h3 : (j + 1) * 140737488355328 ≤ 20 * 140737488355328 := Nat.mul_le_mul_right _ h20
        have h4 := HNT.out
        rw [wrap_mid (by omega) (by omega)]
        omega
      have HDn : Hid (j + 1 ≤ 20 → nsum (rs.take (j + 1)) ≤ 150 → IntKind.i64.wrap (d + weighW r) = wsum (rs.take (j + 1))) := fun h20 h150 => by
        have h4 := HNT.out
        have h1 := HD.out (by omega) (by omega)
        have h5 := weighW_eq (l := r) (by omega) HM.out.2
        have h6 := wsum_bound fun x hx => (HTN.out x hx).2
        have h7 : nsum (rs.take (j + 1)) * (2 * 140737488355328) ≤ 150 * (2 * 140737488355328) := Nat.mul_le_mul_right _ h150
        have h8 := HWT.out
        rw [h5, wrap_mid (by omega) (by omega)]
        omega
      clear HC HD HNT HWT HTN HLL HM
      obtain ⟨q, hq⟩ : ∃ q, r.length = q := ⟨_, rfl⟩
      have HQ := Lib.hid hq
      rw [hq] at HCn HU hc
      clear hq
      obtain ⟨x, hx⟩ : ∃ x, weighW r = x := ⟨_, rfl⟩
      have HX := Lib.hid hx
      rw [hx] at HDn
      clear hx
      have hkw : ∀ m, Calls Try.prog 28 #[.slice ua q uc] (wr.drewN m) fun e w' => e = .returned (.int .i64 x) ∧ ∃ n, w' = (wr.drewN m).drewN n := fun m => by
        have h5 := kweighW_any (fun k => F k) (.slice ua q uc) r (wr.drewN m) (HU.out.below (below_dn (Below.refl _ _) _))
        rw [HX.out] at h5
        exact h5
      have HKW := Lib.hid hkw
      clear hkw
      go_wp2_with fail
      go_quiet ((go_at_call 28; refine Calls.quiet_of (HKW.out _)))
      all_goals
        go_wp2_with fail
        go_roundw
        · exact ⟨j + 1, _, _, by go_num, by omega, rfl, rfl, (by first | exact HCn | exact fun h => by simp only [w64_eq]; exact HCn.out h), (by first | exact HDn | exact fun h h' => by simp only [w64_eq]; exact HDn.out h h'), (by first | exact HW.out | exact drewN_one HW.out | exact drewN_more HW.out _)⟩
        · simp only [intOf]; omega
    · obtain rfl : j = n := by omega
      have HF : Hid (j ≤ 20 → c = nsum rs) := fun h20 => by have := HC.out h20; rwa [List.take_of_length_le (by rw [HN.out]; exact Nat.le_refl _)] at this
      have HG : Hid (j ≤ 20 → nsum rs ≤ 150 → d = wsum rs) := fun h20 h150 => by have := HD.out h20; rw [List.take_of_length_le (by rw [HN.out]; exact Nat.le_refl _)] at this; exact this h150
      clear HC HD
      have t0 : ¬ (j : Int) < (j : Int) := by omega
      by_cases h20 : j ≤ 20
      · have h20' : (j : Int) ≤ 20 := by omega
        have hc := HF.out h20
        by_cases hc2 : c ≤ 150
        · have hd := HG.out h20 (by omega)
          have hc2' : decide (c ≤ 150) = true := decide_eq_true hc2
          by_cases hd2 : d ≤ 15000
          · have HS : Hid (Small rs) := ⟨by rw [HN.out]; exact h20, by omega, by omega⟩
            clear hc hd
            go_wp2_with fail
            go_ret
            exact ⟨_, rfl, (fun _ => HS.out), HW.out⟩
          · have hd2' : decide (d ≤ 15000) = false := by simpa using hd2
            clear hc hd
            go_wp2_with fail
            go_ret
            exact ⟨_, rfl, (fun h => by first | (cases h; done) | (have := of_decide_eq_true h; omega)), HW.out⟩
        · have hc2' : decide (c ≤ 150) = false := by simpa using hc2
          clear hc
          go_wp2_with fail
          go_ret
          exact ⟨_, rfl, (fun h => by first | (cases h; done) | (have := of_decide_eq_true h; omega)), HW.out⟩
      · have h20' : decide ((j : Int) ≤ 20) = false := by simp; omega
        go_wp2_with fail
        go_ret
        exact ⟨_, rfl, (fun h => by first | (cases h; done) | (have := of_decide_eq_true h; omega)), HW.out⟩
end Go.Proofs.Ytmpapipobjoboaa
