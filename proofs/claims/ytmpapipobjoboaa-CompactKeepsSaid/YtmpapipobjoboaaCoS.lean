/- The law CompactCalls: its walk. -/
import Derived.Test.YtmpapipobjoboaaCoR
namespace Go.Proofs.Ytmpapipobjoboaa
open Go.RowKit

/-- A row stands in a cell. -/
structure At (w : World) (b i : Nat) (u : Value) (r : List Ent) : Prop where
  cell : w.cell? ⟨b, i, none⟩ = some u
  rw : Rw entK Any w u r
  lt : b < w.heap.size
theorem At.below {w w' : World} {b i : Nat} {u : Value} {r : List Ent} (h : At w b i u r) (hb : Below w.heap.size w w') : At w' b i u r := ⟨(hb.cell (p := ⟨b, i, none⟩) h.lt).trans h.cell, h.rw.below hb, Nat.lt_of_lt_of_le h.lt hb.size⟩

set_option maxRecDepth 100000 in
set_option maxHeartbeats 8000000 in
theorem compactCalls_any (W : World) (vr vk : Value) (rs : List (List Ent)) (looks : List Int) (bottom : Bool) (t : Int) (hr : Rw (rowK entK) (· < W.heap.size) W vr rs) (hn : Near rs) (hk : Rw unK (· < W.heap.size) W vk looks) :
    Calls Try.prog 9 #[vr, vk, .bool bottom, .int .i64 t] W fun e w' => e = .returned (.bool true) ∧ Below W.heap.size W w' := by
  obtain ⟨ra, rc, rfl⟩ := hr.isSlice
  obtain ⟨ka, kc, rfl⟩ := hk.isSlice
  have HR := Lib.hid hr.any
  have HK := Lib.hid hk.any
  have HNE := Lib.hid hn
  clear hr hn hk
  obtain ⟨m, hm⟩ : ∃ m, rs.length = m := ⟨_, rfl⟩
  have HM := Lib.hid hm
  rw [hm] at HR
  rw [hm]
  clear hm
  obtain ⟨lk, hlk⟩ : ∃ lk, looks.length = lk := ⟨_, rfl⟩
  have HLK := Lib.hid hlk
  rw [hlk] at HK
  rw [hlk]
  clear hlk
  go_enter Try.func9, Try.ntmps9
  go_wp2_with fail
  refine Calls.mono (llives_any _) ?_
  rintro _ w1 ⟨rfl, hb⟩
  have HW1 := Lib.hid hb
  have HR1 := Lib.hid (HR.out.below hb)
  have HK1 := Lib.hid (HK.out.below hb)
  clear hb
  go_wp2_with fail
  refine Calls.mono (small15_any Any Any _ _ rs looks _ HR1.out HK1.out HNE.out) ?_
  rintro _ w2 ⟨b, rfl, hsm, hd⟩
  have HW2 : Hid (Below W.heap.size W w2) := HW1.out.trans ((below_drewN hd).mono HW1.out.size)
  have HSM := Lib.hid hsm
  clear hd hsm HR1 HK1 HW1
  cases b with
  | false =>
    go_wp2_with fail
    go_ret
    exact ⟨rfl, HW2.out⟩
  | true =>
    have HOK := Lib.hid ((HSM.out rfl).1.ok HNE.out)
    have HLI := Lib.hid ((HSM.out rfl).1.lite)
    have HL1 := Lib.hid (HSM.out rfl).2
    have hm20 : m ≤ 20 := by rw [← HM.out]; exact (HSM.out rfl).1.rows
    have HRW : Hid (∀ r ∈ rs, r.length ≤ 1000 ∧ ∀ e ∈ r, e.key.length + e.value.length ≤ 100000) := fun r hr => ⟨by have h1 : r.length ≤ nsum rs := le_sum (List.mem_map_of_mem hr); have := (HSM.out rfl).1.few; omega, HLI.out r hr⟩
    clear HSM
    obtain ⟨X, k, hc1, hc2⟩ := crun_up rs looks bottom t HOK.out HLI.out (by have := HL1.out; omega)
    have HC1 := Lib.hid hc1
    have HC2 := Lib.hid hc2
    clear hc1 hc2 HOK HLI
    rw [HLK.out] at HL1
    have HLB : Hid (looks.length ≤ 1000) := by have := HL1.out; rw [← HLK.out] at this; exact Nat.le_trans this (by decide)
    go_wp2_with fail
    refine Calls.mono (HC1.out _ _ _ (HR.out.below HW2.out) (HK.out.below HW2.out)) ?_
    rintro _ w3 ⟨a3, c3, rfl, hx, hb⟩
    have HW3 : Hid (Below W.heap.size W w3) := HW2.out.trans (hb.mono HW2.out.size)
    have HA := Lib.hid hx
    clear hx hb HC1 HW2
    go_wp2_with fail
    refine Calls.mono (HC2.out _ _ _ (HR.out.below HW3.out) (HK.out.below HW3.out)) ?_
    rintro _ w4 ⟨a4, c4, rfl, hx, hb⟩
    have HW4 : Hid (Below W.heap.size W w4) := HW3.out.trans (hb.mono HW3.out.size)
    have HA := Lib.hid (HA.out.below hb)
    have HB := Lib.hid hx
    clear hx hb HC2 HW3
    go_wp2_with fail
    refine Calls.mono (lists_same _ _ _ _ X _ HA.out HB.out) ?_
    rintro _ w5 ⟨rfl, hb⟩
    have HW5 : Hid (Below W.heap.size W w5) := HW4.out.trans (hb.mono HW4.out.size)
    clear hb HA HB HW4
    generalize X.length = xl at *
    go_wp2_with fail
    go_loopw [13] (fun iv wr => ∃ (j : Nat), iv = .int .i64 (j : Int) ∧ j ≤ m ∧ Hid (Below W.heap.size W wr)) (fun iv _ => m - (intOf iv).toNat)
    case atStart => exact ⟨0, rfl, by omega, HW5.out⟩
    case round =>
      obtain ⟨j, rfl, hj, HBr⟩ := hrel
      clear HW5
      by_cases hlt : j < m
      · have t1 : (j : Int) < (m : Int) := by omega
        have t3 : 0 ≤ (j : Int) := by omega
        have hl1 : j < rs.length := by rw [HM.out]; omega
        obtain ⟨ba, oa, capa, ea, _, hba, hca⟩ := rows_at (HR.out.below HBr.out) (by omega)
        obtain ⟨u, hu, hc⟩ := hca j hl1
        injection ea with e1 e2 e3
        subst e1 e3
        clear e2
        have hrr := HRW.out _ (List.getElem_mem hl1)
        obtain ⟨ua, uc, rfl⟩ := hu.isSlice
        have HAT : Hid (At wr ba (oa + j) (.slice ua rs[j].length uc) rs[j]) := ⟨hc, hu, hba⟩
        clear hca hu hc hba
        generalize rs[j] = r at *
        obtain ⟨X1, k1, Y1, q1, n1, c1, f1, hrow, hn1⟩ := row15 looks bottom t r hrr.1 HLB.out hrr.2
        have HRO := Lib.hid hrow
        have HRR := Lib.hid hrr
        clear hrow hrr
        obtain ⟨ql, hql⟩ : ∃ ql, r.length = ql := ⟨_, rfl⟩
        have HQL := Lib.hid hql
        rw [hql] at HAT
        clear hql hl1
        have hc := HAT.out.cell
        go_wp2_with fail
        clear hc
        refine Calls.mono (ownEntries_any _ _ r _ HAT.out.rw (by have := HRR.out.1; omega) (fun e he => by have := HRR.out.2 e he; exact ⟨by omega, by omega⟩)) ?_
        rintro _ w6 ⟨v6, rfl, hx, hb⟩
        obtain ⟨a6, c6, rfl⟩ := hx.isSlice
        rw [HQL.out] at hx
        have HO := Lib.hid (ownRw hx).any
        have HW6 : Hid (Below W.heap.size W w6) := HBr.out.trans (hb.mono HBr.out.size)
        have HAT := Lib.hid (HAT.out.below hb)
        rw [HQL.out]
        clear hx hb
        go_wp2_with fail
        refine Calls.mono (HRO.out.row _ _ _ HO.out (HK.out.below HW6.out)) ?_
        rintro _ w7 ⟨a7, c7, rfl, hx, hb⟩
        have HW7 : Hid (Below W.heap.size W w7) := HW6.out.trans (hb.mono HW6.out.size)
        have HAT := Lib.hid (HAT.out.below hb)
        have HO := Lib.hid (HO.out.below hb)
        have F7 := Lib.hid hx
        clear hx hb HW6
        have hc := HAT.out.cell
        go_wp2_with fail
        clear hc
        refine Calls.mono (HRO.out.rrow _ _ _ HAT.out.rw (HK.out.below HW7.out)) ?_
        rintro _ w8 ⟨a8, c8, rfl, hx, hb⟩
        have HW8 : Hid (Below W.heap.size W w8) := HW7.out.trans (hb.mono HW7.out.size)
        have HAT := Lib.hid (HAT.out.below hb)
        have HO := Lib.hid (HO.out.below hb)
        have F7 := Lib.hid (F7.out.below hb)
        have F8 := Lib.hid hx
        clear hx hb HW7
        go_wp2_with fail
        refine Calls.mono (HRO.out.cut _ _ HO.out) ?_
        rintro _ w9 ⟨a9, c9, rfl, hx, hb⟩
        have HW9 : Hid (Below W.heap.size W w9) := HW8.out.trans (hb.mono HW8.out.size)
        have HAT := Lib.hid (HAT.out.below hb)
        have HO := Lib.hid (HO.out.below hb)
        have F7 := Lib.hid (F7.out.below hb)
        have F8 := Lib.hid (F8.out.below hb)
        have F9 := Lib.hid hx
        clear hx hb HW8
        have hc := HAT.out.cell
        go_wp2_with fail
        clear hc
        refine Calls.mono (HRO.out.rcut _ _ HAT.out.rw) ?_
        rintro _ w10 ⟨a10, c10, rfl, hx, hb⟩
        have HW10 : Hid (Below W.heap.size W w10) := HW9.out.trans (hb.mono HW9.out.size)
        have HAT := Lib.hid (HAT.out.below hb)
        have HO := Lib.hid (HO.out.below hb)
        have F7 := Lib.hid (F7.out.below hb)
        have F8 := Lib.hid (F8.out.below hb)
        have F9 := Lib.hid (F9.out.below hb)
        have F10 := Lib.hid hx
        clear hx hb HW9
        go_wp2_with fail
        refine Calls.mono (HRO.out.vis _ _ _ HO.out (HK.out.below HW10.out)) ?_
        rintro _ w11 ⟨a11, rfl, hx, hb⟩
        have HW11 : Hid (Below W.heap.size W w11) := HW10.out.trans (hb.mono HW10.out.size)
        have HAT := Lib.hid (HAT.out.below hb)
        have HO := Lib.hid (HO.out.below hb)
        have F7 := Lib.hid (F7.out.below hb)
        have F8 := Lib.hid (F8.out.below hb)
        have F9 := Lib.hid (F9.out.below hb)
        have F10 := Lib.hid (F10.out.below hb)
        have F11 := Lib.hid hx
        clear hx hb HW10
        have hc := HAT.out.cell
        go_wp2_with fail
        clear hc
        refine Calls.mono (HRO.out.rvis _ _ _ HAT.out.rw (HK.out.below HW11.out)) ?_
        rintro _ w12 ⟨a12, rfl, hx, hb⟩
        have HW12 : Hid (Below W.heap.size W w12) := HW11.out.trans (hb.mono HW11.out.size)
        have HAT := Lib.hid (HAT.out.below hb)
        have HO := Lib.hid (HO.out.below hb)
        have F7 := Lib.hid (F7.out.below hb)
        have F8 := Lib.hid (F8.out.below hb)
        have F9 := Lib.hid (F9.out.below hb)
        have F10 := Lib.hid (F10.out.below hb)
        have F11 := Lib.hid (F11.out.below hb)
        have F12 := Lib.hid hx
        clear hx hb HW11
        clear HAT HO
        go_wp2_with fail
        refine Calls.mono (kentries_same _ _ _ _ X1 _ F7.out F8.out) ?_
        rintro _ w13 ⟨rfl, hb⟩
        have HW13 : Hid (Below W.heap.size W w13) := HW12.out.trans (hb.mono HW12.out.size)
        have F9 := Lib.hid (F9.out.below hb)
        have F10 := Lib.hid (F10.out.below hb)
        have F11 := Lib.hid (F11.out.below hb)
        have F12 := Lib.hid (F12.out.below hb)
        clear hb F7 F8 HW12
        go_wp2_with fail
        refine Calls.mono (lists_same _ _ _ _ Y1 _ F9.out F10.out) ?_
        rintro _ w14 ⟨rfl, hb⟩
        have HW14 : Hid (Below W.heap.size W w14) := HW13.out.trans (hb.mono HW13.out.size)
        have F11 := Lib.hid (F11.out.below hb)
        have F12 := Lib.hid (F12.out.below hb)
        clear hb F9 F10 HW13 HRO
        generalize X1.length = x1l at *
        generalize Y1.length = y1l at *
        go_wp2_with fail
        go_loopw [27] (fun iv wr => ∃ (i : Nat), iv = .int .i64 (i : Int) ∧ i ≤ n1 ∧ Hid (Below W.heap.size W wr) ∧ Hid (Bs wr a11 f1 n1) ∧ Hid (Bs wr a12 f1 n1)) (fun iv _ => n1 - (intOf iv).toNat)
        case atStart => exact ⟨0, rfl, by omega, HW14.out, F11.out, F12.out⟩
        case round =>
          obtain ⟨i, rfl, hi, HBi, G1, G2⟩ := hrel
          clear HW14 F11 F12
          by_cases hil : i < n1
          · have s1 : (i : Int) < (n1 : Int) := by omega
            have s3 : 0 ≤ (i : Int) := by omega
            obtain ⟨o1, rfl, g1⟩ := G1.out (by omega)
            obtain ⟨o2, rfl, g2⟩ := G2.out (by omega)
            have d1 := g1.cell hil
            have d2 := g2.cell hil
            clear g1 g2
            generalize f1 i = b1 at *
            go_wp2_with fail
            go_quiet (fail)
            all_goals
              go_wp2_with fail
              go_roundw
              · exact ⟨i + 1, by go_num, by omega, below_dn HBi.out _, G1.out.below (below_dn (Below.refl _ _) _), G2.out.below (below_dn (Below.refl _ _) _)⟩
              · simp only [intOf]; omega
          · have s1 : ¬ (i : Int) < (n1 : Int) := by omega
            go_wp2_with fail
            go_roundw
            · exact ⟨j + 1, by go_num, by omega, HBi.out⟩
            · simp only [intOf]; omega
      · have t1 : ¬ (j : Int) < (m : Int) := by omega
        go_wp2_with fail
        go_ret
        exact ⟨rfl, HBr.out⟩
end Go.Proofs.Ytmpapipobjoboaa
