/- Chapter 14's laws: their small functions. -/
import Derived.Test.YtkcohhldmhdcfaaPkJa
namespace Go.Proofs.Ytkcohhldmhdcfaa
open Go.RowKit

/-- Do two files have keys in common? -/
def ovl (a b : Fil) : Bool := !Op.bytesLess a.most b.least && !Op.bytesLess b.most a.least
set_option maxRecDepth 100000 in
set_option maxHeartbeats 2000000 in
theorem overlaps_any (F G F' G' : Nat → Prop) (a b : Fil) (al am bl bm : Value) (w : World) (h1 : Bytes F w al a.least) (h2 : Bytes G w am a.most) (h3 : Bytes F' w bl b.least) (h4 : Bytes G' w bm b.most) :
    Calls Try.prog 16 #[.agg (filCells a al am).toArray, .agg (filCells b bl bm).toArray] w fun e w' => e = .returned (.bool (ovl a b)) ∧ Below w.heap.size w w' := by
  obtain ⟨xa1, xc1, rfl⟩ := h1.isSlice
  obtain ⟨xa2, xc2, rfl⟩ := h2.isSlice
  obtain ⟨xa3, xc3, rfl⟩ := h3.isSlice
  obtain ⟨xa4, xc4, rfl⟩ := h4.isSlice
  have HO : Hid (ovl a b = (!Op.bytesLess a.most b.least && !Op.bytesLess b.most a.least)) := rfl
  have H1 := Lib.hid h1
  have H2 := Lib.hid h2
  have H3 := Lib.hid h3
  have H4 := Lib.hid h4
  clear h1 h2 h3 h4
  unfold filCells
  go_enter Try.func16, Try.ntmps16
  go_upto_region 1 with fail
  refine wp_gen fun w1 hw1 => ?_
  have HA1 : Hid (Blk w1 w.heap.size (filCells a (.slice xa1 a.least.length xc1) (.slice xa2 a.most.length xc2)).toArray 42) := by rw [hw1]; exact (Blk.at_new rfl rfl).alloc _
  have HB1 : Hid (Blk w1 (w.heap.size + 1) (filCells b (.slice xa3 b.least.length xc3) (.slice xa4 b.most.length xc4)).toArray 42) := by rw [hw1]; exact blk_two _ _ _ _
  have HW1 : Hid (Below w.heap.size w w1) := by rw [hw1]; exact below_two _ _ _
  clear hw1
  have c2 : w1.cell? ⟨w.heap.size, 2, none⟩ = some (.slice xa1 a.least.length xc1) := HA1.out.cell rfl
  have c3 : w1.cell? ⟨w.heap.size, 3, none⟩ = some (.slice xa2 a.most.length xc2) := HA1.out.cell rfl
  have d2 : w1.cell? ⟨w.heap.size + 1, 2, none⟩ = some (.slice xa3 b.least.length xc3) := HB1.out.cell rfl
  have d3 : w1.cell? ⟨w.heap.size + 1, 3, none⟩ = some (.slice xa4 b.most.length xc4) := HB1.out.cell rfl
  go_wp2_with fail
  refine Calls.mono (kbefore_any _ _ _ a.most _ b.least w1 (H2.out.below HW1.out) (H3.out.below HW1.out)) ?_
  rintro _ _ ⟨rfl, rfl⟩
  cases hx : Op.bytesLess a.most b.least with
  | true =>
    have HF : Hid (ovl a b = false) := by show _ = _; rw [HO.out, hx]; rfl
    go_wp2_with fail
    go_ret
    exact ⟨ret_bool HF.out.symm, HW1.out⟩
  | false =>
    have HF : Hid (ovl a b = !Op.bytesLess b.most a.least) := by show _ = _; rw [HO.out, hx]; rfl
    go_wp2_with fail
    refine Calls.mono (kbefore_any _ _ _ b.most _ a.least _ (H4.out.below HW1.out) (H1.out.below HW1.out)) ?_
    rintro _ _ ⟨rfl, rfl⟩
    go_wp2_with fail
    go_ret
    exact ⟨ret_bool HF.out.symm, HW1.out⟩

/-- Is a file of a number one of some? -/
def amg (l : List Fil) (n : Int) : Bool := l.any fun g => decide (g.num = n)
set_option maxRecDepth 100000 in
set_option maxHeartbeats 2000000 in
theorem among_any (F : Nat → Prop) (v : Value) (l : List Fil) (f : Fil) (vl vm : Value) (w : World) (h : Rw filK F w v l) (hfew : l.length ≤ 1000000) :
    Calls Try.prog 15 #[v, .agg (filCells f vl vm).toArray] w fun e w' => e = .returned (.bool (amg l f.num)) ∧ Below w.heap.size w w' := by
  obtain ⟨xa, ca, rfl⟩ := h.isSlice
  have HA := Lib.hid h
  obtain ⟨n, hn⟩ : ∃ n, l.length = n := ⟨_, rfl⟩
  have HN := Lib.hid hn
  rw [hn] at HA hfew ⊢
  clear h hn
  unfold filCells
  go_enter Try.func15, Try.ntmps15
  go_upto_region 1 with fail
  refine wp_gen fun w1 hw1 => ?_
  have HX1 : Hid (Blk w1 w.heap.size (filCells f vl vm).toArray 42) := by rw [hw1]; exact Blk.at_new rfl rfl
  have HW1 : Hid (Below w.heap.size w w1) := by rw [hw1]; exact (Below.refl _ _).alloc (Nat.le_refl _) _
  clear hw1
  generalize hxb : w.heap.size = xb at HX1 ⊢
  have HXB := Lib.hid hxb
  clear hxb
  go_wp2_with fail
  go_loopw [5] (fun kv wr => ∃ k : Nat, kv = .int .i64 (k : Int) ∧ k ≤ n ∧ Hid (∀ j, j < k → ¬ (fat l j).num = f.num) ∧ Hid (∃ q, wr = w1.drewN q)) (fun kv _ => n - (intOf kv).toNat)
  case atStart => exact ⟨0, rfl, by omega, fun j hj => absurd hj (by omega), ⟨0, rfl⟩⟩
  case round =>
    obtain ⟨k, rfl, hk, HS, HQ⟩ := hrel
    have HBW : Hid (Below w1.heap.size w1 wr) := below_drewN HQ.out
    by_cases hkn : k < n
    · have t1 : (k : Int) < (n : Int) := by omega
      have t2 : 0 ≤ (k : Int) := by omega
      have hkl : k < l.length := by rw [HN.out]; exact hkn
      obtain ⟨ba, oa, capa, ea, _, hba, hca⟩ := fils_at (HA.out.below HW1.out) (by omega)
      obtain ⟨_, _, _, _, _, hc6⟩ := hca k hkl
      rw [HN.out] at ea
      injection ea with e1 e2 e3
      subst e1 e3
      clear e2 hca
      obtain ⟨c0, -⟩ := hc6.keep HBW.out hba
      have d0 : wr.cell? ⟨xb, 0, none⟩ = some (.int .u64 f.num) := (HX1.out.below HBW.out HX1.out.lt).cell rfl
      have HM := Lib.hid (fat_mem hkl)
      obtain ⟨g, hg⟩ : ∃ g, fat l k = g := ⟨_, rfl⟩
      have HG := Lib.hid hg
      rw [hg] at c0 HM
      clear hc6 hg hkl
      by_cases heq : g.num = f.num
      · have HF : Hid (amg l f.num = true) := by show _ = _; unfold amg; exact List.any_eq_true.2 ⟨g, HM.out, decide_eq_true heq⟩
        go_wp2_with fail
        go_quiet (fail)
        all_goals
          go_wp2_with fail
          go_ret
          exact ⟨ret_bool HF.out.symm, by first | exact HW1.out.trans (HBW.out.mono HW1.out.size) | exact below_dn (HW1.out.trans (HBW.out.mono HW1.out.size)) _ | (rw [← HXB.out]; first | exact HW1.out.trans (HBW.out.mono HW1.out.size) | exact below_dn (HW1.out.trans (HBW.out.mono HW1.out.size)) _)⟩
      · have hs : Hid (∀ j, j < k + 1 → ¬ (fat l j).num = f.num) := fun j hj => by
          by_cases hjk : j = k
          · subst hjk; rw [HG.out]; exact heq
          · exact HS.out j (by omega)
        go_wp2_with fail
        go_quiet (fail)
        all_goals
          go_wp2_with fail
          go_roundw
          · exact ⟨k + 1, by go_num, by omega, hs.out, by first | exact HQ.out | exact drewN_one HQ.out | exact drewN_more HQ.out _⟩
          · simp only [intOf]; omega
    · have t1 : ¬ (k : Int) < (n : Int) := by omega
      have HF : Hid (amg l f.num = false) := by
        show _ = _
        unfold amg
        rw [List.any_eq_false]
        intro x hx
        obtain ⟨j, hj, rfl⟩ := mem_fat hx
        simpa using HS.out j (by rw [HN.out] at hj; omega)
      go_wp2_with fail
      go_ret
      exact ⟨ret_bool HF.out.symm, by first | exact HW1.out.trans (HBW.out.mono HW1.out.size) | (rw [← HXB.out]; exact HW1.out.trans (HBW.out.mono HW1.out.size))⟩

/-- What small tells. -/
def SmallV (v : Ver) (w : World) (e : Ending) (w' : World) : Prop := ∃ b, e = .returned (.bool b) ∧ (b = true → v.levels.length ≤ 10 ∧ cntTo v.levels v.levels.length ≤ 100) ∧ Below w.heap.size w w'
theorem SmallV.no {v : Ver} {w w' : World} (h : Below w.heap.size w w') : SmallV v w (.returned (.bool false)) w' := ⟨_, rfl, (fun e => by cases e), h⟩
theorem SmallV.of {v : Ver} {w w' : World} (b : Bool) (h : Below w.heap.size w w') (h1 : v.levels.length ≤ 10 ∧ cntTo v.levels v.levels.length ≤ 100) : SmallV v w (.returned (.bool b)) w' := ⟨_, rfl, fun _ => h1, h⟩
set_option maxRecDepth 100000 in
set_option maxHeartbeats 4000000 in
theorem psmall_any (F : Nat → Prop) (v : Ver) (lv : Value) (w : World) (h : Rw (rowK filK) F w lv v.levels) (hle : v.levels.length ≤ 140737488355328) (hn : ∀ i, i < v.levels.length → (lat v.levels i).length ≤ 140737488355328) :
    Calls Try.prog 10 #[.agg (verCells v lv).toArray] w (SmallV v w) := by
  obtain ⟨xa, ca, rfl⟩ := h.isSlice
  have HA := Lib.hid h
  have HNR := Lib.hid hn
  clear h hn
  obtain ⟨m, hm⟩ : ∃ m, v.levels.length = m := ⟨_, rfl⟩
  have HM := Lib.hid hm
  rw [hm] at HA hle ⊢
  clear hm
  unfold verCells
  go_enter Try.func10, Try.ntmps10
  go_upto_region 1 with fail
  refine wp_gen fun w1 hw1 => ?_
  have HX1 : Hid (Blk w1 w.heap.size (verCells v (.slice xa m ca)).toArray 25) := by rw [hw1]; exact Blk.at_new rfl rfl
  have HW1 : Hid (Below w.heap.size w w1) := by rw [hw1]; exact (Below.refl _ _).alloc (Nat.le_refl _) _
  clear hw1
  have HA1 := Lib.hid (HA.out.below HW1.out)
  generalize hxb : w.heap.size = xb at HX1 ⊢
  have HXB := Lib.hid hxb
  clear hxb HA
  go_wp2_with fail
  go_loopw [3, 4, 5] (fun nv bv iv wr => ∃ (i : Nat) (x y : Int), nv = .int .i64 x ∧ bv = .int .i64 y ∧ iv = .int .i64 (i : Int) ∧ i ≤ m ∧ Hid (m ≤ 10 → x = (cntTo v.levels i : Nat) ∧ x ≤ i * 140737488355328) ∧ Hid (∃ q, wr = w1.drewN q)) (fun _ _ iv _ => m - (intOf iv).toNat)
  case atStart => exact ⟨0, 0, 0, rfl, rfl, rfl, by omega, fun _ => ⟨rfl, by omega⟩, ⟨0, rfl⟩⟩
  case round =>
    obtain ⟨i, x, y, rfl, rfl, rfl, hi, HX, HQ⟩ := hrel
    have HBW : Hid (Below w1.heap.size w1 wr) := below_drewN HQ.out
    have x0 : wr.cell? ⟨xb, 0, none⟩ = some (.slice xa m ca) := (HX1.out.below HBW.out HX1.out.lt).cell rfl
    by_cases him : i < m
    · have t1 : (i : Int) < (m : Int) := by omega
      have t2 : 0 ≤ (i : Int) := by omega
      have hil : i < v.levels.length := by rw [HM.out]; exact him
      obtain ⟨bl, ol, capl, el, _, hbl, hcl⟩ := levs_at HA1.out (by omega)
      obtain ⟨u, hu, hcu⟩ := hcl i hil
      rw [HM.out] at el
      injection el with e1 e2 e3
      subst e1 e3
      clear e2 hcl
      have c0 : wr.cell? ⟨bl, ol + i, none⟩ = some u := (HBW.out.cell (p := ⟨bl, ol + i, none⟩) hbl).trans hcu
      obtain ⟨ua, uc, rfl⟩ := hu.isSlice
      have HU := Lib.hid hu
      have hll := HNR.out i hil
      have HCN : Hid (cntTo v.levels (i + 1) = cntTo v.levels i + (lat v.levels i).length) := rfl
      obtain ⟨n, hn⟩ : ∃ n, (lat v.levels i).length = n := ⟨_, rfl⟩
      have HLN := Lib.hid hn
      rw [hn] at c0 HU hll HCN
      have HBN : Hid (bl < w1.heap.size) := hbl
      have HCU : Hid (w1.cell? ⟨bl, ol + i, none⟩ = some (.slice ua n uc)) := by show _ = _; rw [← hn]; exact hcu
      clear hu hcu hn hil
      obtain ⟨x2, hx2⟩ : ∃ z, RowKit.wrap64 (x + (n : Int)) = z := ⟨_, rfl⟩
      have HX2 : Hid (m ≤ 10 → x2 = (cntTo v.levels (i + 1) : Nat) ∧ x2 ≤ ((i + 1 : Nat) : Int) * 140737488355328) := fun h10 => by
        obtain ⟨g1, g2⟩ := HX.out h10
        rw [HCN.out]
        rw [← hx2]
        unfold RowKit.wrap64
        omega
      go_wp2_with fail
      rw [hx2]
      clear hx2
      go_loopw [4, 6] (fun bv kv wr2 => ∃ (k : Nat) (y : Int), bv = .int .i64 y ∧ kv = .int .i64 (k : Int) ∧ k ≤ n ∧ Hid (∃ q, wr2 = w1.drewN q)) (fun _ kv _ => n - (intOf kv).toNat)
      case atStart => exact ⟨0, _, rfl, rfl, by omega, HQ.out⟩
      case round =>
        clear x0 c0
        obtain ⟨k, y2, rfl, rfl, hk, HQ2⟩ := hrel
        have HBW2 : Hid (Below w1.heap.size w1 wr) := below_drewN HQ2.out
        have x0 : wr.cell? ⟨xb, 0, none⟩ = some (.slice (some ⟨bl, ol, none⟩) m ca) := (HX1.out.below HBW2.out HX1.out.lt).cell rfl
        have c0 : wr.cell? ⟨bl, ol + i, none⟩ = some (.slice ua n uc) := (HBW2.out.cell (p := ⟨bl, ol + i, none⟩) HBN.out).trans HCU.out
        by_cases hkn : k < n
        · have t4 : (k : Int) < (n : Int) := by omega
          have t5 : 0 ≤ (k : Int) := by omega
          have hkl : k < (lat v.levels i).length := by rw [HLN.out]; exact hkn
          obtain ⟨bf, of, capf, ef, _, hbf, hcf⟩ := fils_at HU.out (by omega)
          obtain ⟨vl, vm, hvl, hvm, _, hc6⟩ := hcf k hkl
          rw [HLN.out] at ef
          injection ef with e1 e2 e3
          subst e1 e3
          clear e2 hcf
          obtain ⟨-, -, d2, d3, -, -⟩ := hc6.keep HBW2.out hbf
          obtain ⟨la, lc, rfl⟩ := hvl.isSlice
          obtain ⟨ma, mc, rfl⟩ := hvm.isSlice
          clear hvl hvm hc6 hkl
          go_wp2_with fail
          go_quiet (fail)
          all_goals
            go_wp2_with fail
            go_roundw
            · exact ⟨k + 1, _, rfl, by go_num, by omega, by first | exact HQ2.out | exact drewN_one HQ2.out | exact drewN_more HQ2.out _⟩
            · simp only [intOf]; omega
        · have t4 : ¬ (k : Int) < (n : Int) := by omega
          go_wp2_with fail
          go_roundw
          · exact ⟨i + 1, x2, y2, rfl, rfl, by go_num, by omega, HX2.out, HQ2.out⟩
          · simp only [intOf]; omega
    · have t1 : ¬ (i : Int) < (m : Int) := by omega
      obtain rfl : i = m := by omega
      have HBE : Hid (Below w.heap.size w wr) := HW1.out.trans (HBW.out.mono HW1.out.size)
      by_cases h10 : i ≤ 10
      · obtain ⟨g1, _⟩ := HX.out h10
        have t2 : (i : Int) ≤ 10 := by omega
        have HG := Lib.hid g1
        clear g1
        by_cases h100 : x ≤ 100
        · have HC : Hid (v.levels.length ≤ 10 ∧ cntTo v.levels v.levels.length ≤ 100) := by show _ ∧ _; rw [HM.out]; exact ⟨h10, by have := HG.out; omega⟩
          go_wp2_with fail
          go_ret
          exact SmallV.of _ HBE.out HC.out
        · go_wp2_with fail
          go_ret
          exact SmallV.no HBE.out
      · have t2 : ¬ (i : Int) ≤ 10 := by omega
        go_wp2_with fail
        go_ret
        exact SmallV.no HBE.out
end Go.Proofs.Ytkcohhldmhdcfaa
