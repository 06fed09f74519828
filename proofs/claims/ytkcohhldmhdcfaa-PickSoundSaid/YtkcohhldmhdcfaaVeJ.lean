/- Chapter 12: version.Deepest. -/
import Derived.Test.YtkcohhldmhdcfaaVeI
namespace Go.Proofs.Ytkcohhldmhdcfaa
open Go.RowKit

set_option maxRecDepth 100000 in
set_option maxHeartbeats 2000000 in
theorem deep1_any (F G L M : Nat → Prop) (f : Fil) (la : Option Addr) (lc : Nat) (ma : Option Addr) (mc : Nat) (least most : List UInt8) (ql qm : Value) (b1 b2 : Nat) (w : World) (hl : Bytes F w (.slice la f.least.length lc) f.least) (hm : Bytes G w (.slice ma f.most.length mc) f.most) (h1 : Bytes L w ql least) (h2 : Bytes M w qm most) (hc1 : w.cell? ⟨b1, 0, none⟩ = some ql) (hc2 : w.cell? ⟨b2, 0, none⟩ = some qm) :
    Calls Try.prog 76 #[.agg #[.int .u64 f.num, .int .i64 f.size, .slice la f.least.length lc, .slice ma f.most.length mc, .int .i64 f.ents, .int .u64 f.mseq], .pointer (some ⟨b1, 0, none⟩), .pointer (some ⟨b2, 0, none⟩)] w fun e w' => e = .returned (.bool (lapB least most f)) ∧ Below w.heap.size w w' := by
  have HL := Lib.hid hl
  have HM := Lib.hid hm
  have H1 := Lib.hid h1
  have H2 := Lib.hid h2
  have HC : Hid (w.cell? ⟨b1, 0, none⟩ = some ql ∧ w.cell? ⟨b2, 0, none⟩ = some qm) := ⟨hc1, hc2⟩
  clear hl hm h1 h2 hc1 hc2
  go_enter Try.func76, Try.ntmps76
  go_upto_region 1 with fail
  refine wp_gen fun w1 hw1 => ?_
  have HX1 : Hid (Blk w1 w.heap.size (filCells f (.slice la f.least.length lc) (.slice ma f.most.length mc)).toArray 42) := by rw [hw1]; exact Blk.at_new rfl rfl
  have HW1 : Hid (Below w.heap.size w w1) := by rw [hw1]; exact (Below.refl _ _).alloc (Nat.le_refl _) _
  have y1 : w1.cell? ⟨b1, 0, none⟩ = some ql := by rw [hw1]; exact Lib.cell?_alloc_some _ HC.out.1
  have y2 : w1.cell? ⟨b2, 0, none⟩ = some qm := by rw [hw1]; exact Lib.cell?_alloc_some _ HC.out.2
  clear hw1
  have x0 : w1.cell? ⟨w.heap.size, 0, none⟩ = some (.int .u64 f.num) := HX1.out.cell rfl
  have x1 : w1.cell? ⟨w.heap.size, 1, none⟩ = some (.int .i64 f.size) := HX1.out.cell rfl
  have x2 : w1.cell? ⟨w.heap.size, 2, none⟩ = some (.slice la f.least.length lc) := HX1.out.cell rfl
  have x3 : w1.cell? ⟨w.heap.size, 3, none⟩ = some (.slice ma f.most.length mc) := HX1.out.cell rfl
  have x4 : w1.cell? ⟨w.heap.size, 4, none⟩ = some (.int .i64 f.ents) := HX1.out.cell rfl
  have x5 : w1.cell? ⟨w.heap.size, 5, none⟩ = some (.int .u64 f.mseq) := HX1.out.cell rfl
  go_wp2_with fail
  clear x0 x1 x2 x3 x4 x5 y1 y2
  refine Calls.mono (laps_any _ _ _ _ f (.slice la f.least.length lc) (.slice ma f.most.length mc) least most ql qm _ (HL.out.below HW1.out) (HM.out.below HW1.out) (H1.out.below HW1.out) (H2.out.below HW1.out)) ?_
  rintro _ w2 ⟨rfl, hb⟩
  have HW2 : Hid (Below w.heap.size w w2) := HW1.out.trans (hb.mono HW1.out.size)
  clear hb
  go_wp2_with fail
  go_ret
  exact ⟨rfl, HW2.out⟩
theorem deep1_bodied : Bodied 76 := fun _ _ => by kernel_rfl
theorem deep1_asks (L M : Nat → Prop) (least most : List UInt8) (ql qm : Value) (b1 b2 : Nat) (l : List Fil) (w : World) (h1 : Bytes L w ql least) (h2 : Bytes M w qm most) (hc1 : w.cell? ⟨b1, 0, none⟩ = some ql) (hc2 : w.cell? ⟨b2, 0, none⟩ = some qm) (hb1 : b1 < w.heap.size) (hb2 : b2 < w.heap.size) :
    Asks 76 #[.pointer (some ⟨b1, 0, none⟩), .pointer (some ⟨b2, 0, none⟩)] (lapB least most) l w := fun f la lc ma mc x _ hx hl hm =>
  deep1_any _ _ _ _ f la lc ma mc least most ql qm b1 b2 x hl hm (h1.below hx) (h2.below hx) ((hx.cell (p := ⟨b1, 0, none⟩) hb1).trans hc1) ((hx.cell (p := ⟨b2, 0, none⟩) hb2).trans hc2)

/-- Does no level from i on overlap keys? -/
def clearFrom (least most : List UInt8) (ls : List (List Fil)) (i : Nat) : Bool := (ls.drop i).all fun l => !(l.any (lapB least most))
theorem clearFrom_end (least most : List UInt8) (ls : List (List Fil)) {i : Nat} (h : ls.length ≤ i) : clearFrom least most ls i = true := by unfold clearFrom; rw [List.drop_eq_nil_of_le h]; rfl
theorem clearFrom_step (least most : List UInt8) {ls : List (List Fil)} {i : Nat} (h : i < ls.length) : clearFrom least most ls i = (!((lat ls i).any (lapB least most)) && clearFrom least most ls (i + 1)) := by
  unfold clearFrom
  rw [List.drop_eq_getElem_cons h, lat_eq h]
  rfl
open Classical in
noncomputable def deepB (v : Ver) (lev : Int) (least most : List UInt8) : Bool := if chkW v = 0 ∧ 0 ≤ lev then clearFrom least most v.levels (lev.toNat + 1) else true

set_option maxRecDepth 100000 in
set_option maxHeartbeats 4000000 in
theorem deepest_any (F L M : Nat → Prop) (v : Ver) (lv : Value) (lev : Int) (least most : List UInt8) (ql qm : Value) (w : World) (h : Rw (rowK filK) F w lv v.levels) (hw : v.wf) (hfew : cntTo v.levels v.levels.length ≤ 1000000) (hlev : i64In lev) (h1 : Bytes L w ql least) (h2 : Bytes M w qm most) :
    Calls Try.prog 35 #[.agg (verCells v lv).toArray, .int .i64 lev, ql, qm] w fun e w' => e = .returned (.bool (deepB v lev least most)) ∧ Below w.heap.size w w' := by
  obtain ⟨xa, ca, rfl⟩ := h.isSlice
  have HA : Hid (Rw (rowK filK) (· < w.heap.size) w (.slice xa v.levels.length ca) v.levels) := h.mono fun k hk _ => hk
  have HCK := Lib.hid (fun w' (hb : Below w.heap.size w w') => check_any F v _ w' (h.below hb) hw hfew)
  obtain ⟨qla, qlc, rfl⟩ := h1.isSlice
  obtain ⟨qma, qmc, rfl⟩ := h2.isSlice
  have H1 := Lib.hid h1
  have H2 := Lib.hid h2
  clear h h1 h2
  obtain ⟨m, hm1⟩ : ∃ m, v.levels.length = m := ⟨_, rfl⟩
  have HM := Lib.hid hm1
  rw [hm1] at HA HCK
  unfold verCells at *
  rw [hm1]
  clear hm1
  have hl1 := hlev.1
  have hl2 := hlev.2
  clear hlev
  go_enter Try.func35, Try.ntmps35
  go_upto_region 1 with fail
  refine wp_gen fun w1 hw1 => ?_
  have HX1 : Hid (Blk w1 w.heap.size (verCells v (.slice xa m ca)).toArray 25) := by rw [hw1]; exact ((Blk.at_new rfl rfl).alloc _).alloc _
  have HW1 : Hid (Below w.heap.size w w1) := by rw [hw1]; exact below_three _ _ _ _
  have HY1 : Hid (Blk w1 (w.heap.size + 1) #[.slice qla least.length qlc] 34) := by rw [hw1]; exact heap_three_1 _ _ _ _
  have HY2 : Hid (Blk w1 (w.heap.size + 1 + 1) #[.slice qma most.length qmc] 34) := by rw [hw1]; exact heap_three_2 _ _ _ _
  clear hw1
  obtain ⟨xb, hxb⟩ : ∃ b, w.heap.size = b := ⟨_, rfl⟩
  have HXB := Lib.hid hxb
  obtain ⟨b1, hb1⟩ : ∃ b, w.heap.size + 1 = b := ⟨_, rfl⟩
  obtain ⟨b2, hb2⟩ : ∃ b, w.heap.size + 1 + 1 = b := ⟨_, rfl⟩
  rw [hb1] at HY1 hb2
  rw [show w.heap.size + 1 + 1 = b2 by omega] at HY2
  rw [hxb] at HX1
  try rw [show w.heap.size + 1 + 1 = b2 by omega]
  try rw [hb1]
  try rw [hb2]
  try rw [hxb]
  clear hxb hb1 hb2
  have x0 : w1.cell? ⟨xb, 0, none⟩ = some (.slice xa m ca) := HX1.out.cell rfl
  have x1 : w1.cell? ⟨xb, 1, none⟩ = some (.int .u64 v.next) := HX1.out.cell rfl
  have x2 : w1.cell? ⟨xb, 2, none⟩ = some (.int .u64 v.seq) := HX1.out.cell rfl
  have x3 : w1.cell? ⟨xb, 3, none⟩ = some (.int .u64 v.log) := HX1.out.cell rfl
  go_wp2_with fail
  clear x0 x1 x2 x3
  refine Calls.mono (HCK.out _ HW1.out) ?_
  rintro _ w2 ⟨rfl, hb⟩
  have HX2 : Hid (Blk w2 xb (verCells v (.slice xa m ca)).toArray 25) := HX1.out.below hb HX1.out.lt
  have HY3 := Lib.hid (HY1.out.below hb HY1.out.lt)
  have HY4 := Lib.hid (HY2.out.below hb HY2.out.lt)
  have HW2 : Hid (Below w.heap.size w w2) := HW1.out.trans (hb.mono HW1.out.size)
  clear hb HX1 HW1 HY1 HY2
  obtain ⟨ck, hck⟩ : ∃ c, chkW v = c := ⟨_, rfl⟩
  have HK := Lib.hid hck
  rw [hck]
  clear hck HCK
  by_cases hc0 : ck = 0
  case neg =>
    have g0 : (ck == 0) = false := by simpa using hc0
    have g1 : (ck != 0) = true := by simpa using hc0
    have HF : Hid (deepB v lev least most = true) := by show _ = _; unfold deepB; rw [if_neg fun e => hc0 (by rw [← HK.out]; exact e.1)]
    clear hc0
    go_wp2_with fail
    go_ret
    exact ⟨ret_bool HF.out.symm, HW2.out⟩
  subst hc0
  by_cases hl0 : 0 ≤ lev
  case neg =>
    have g0 : lev < 0 := by omega
    have HF : Hid (deepB v lev least most = true) := by show _ = _; unfold deepB; rw [if_neg fun e => hl0 e.2]
    clear hl0
    go_wp2_with fail
    go_ret
    exact ⟨ret_bool HF.out.symm, HW2.out⟩
  obtain ⟨hh, _, hcn⟩ := chkW_good HK.out
  have hm5 : m = 5 := by rw [← HM.out]; exact hh.five
  subst hm5
  have HCN := Lib.hid hcn
  have HRES : Hid (deepB v lev least most = clearFrom least most v.levels (lev.toNat + 1)) := by
    show _ = _
    unfold deepB
    rw [if_pos ⟨HK.out, hl0⟩]
  clear hh hcn
  by_cases hmx : lev = 9223372036854775807
  · have HF : Hid (deepB v lev least most = true) := by
      show _ = _
      rw [HRES.out]
      exact clearFrom_end _ _ _ (by rw [HM.out, hmx]; decide)
    obtain ⟨c, hc⟩ : ∃ c, RowKit.wrap64 (lev + 1) = c := ⟨_, rfl⟩
    have hc0 : c < 0 := by rw [← hc, hmx]; unfold RowKit.wrap64; omega
    have hc1 : ¬ 0 < c := by omega
    have g0 : ¬ lev < 0 := by omega
    clear hmx hl2 HRES hc0
    go_wp2_with fail
    go_loopw [9] (fun iv wr => iv = .int .i64 c ∧ Hid (Below w2.heap.size w2 wr)) (fun _ _ => 0)
    case atStart => exact ⟨by first | rfl | rw [hc], Below.refl _ _⟩
    case round =>
      obtain ⟨rfl, HB⟩ := hrel
      go_wp2_with fail
      go_ret
      exact ⟨ret_bool HF.out.symm, HW2.out.trans (HB.out.mono HW2.out.size)⟩
  · obtain ⟨i0, hi0⟩ : ∃ i0 : Nat, lev = (i0 : Int) := ⟨lev.toNat, by omega⟩
    subst hi0
    have t1 : ¬ (i0 : Int) < 0 := by omega
    obtain ⟨i1, hi1⟩ : ∃ i1 : Nat, i0 + 1 = i1 := ⟨_, rfl⟩
    have t2 : RowKit.wrap64 ((i0 : Int) + 1) = (i1 : Int) := by unfold RowKit.wrap64; omega
    have HT2 := Lib.hid t2
    have HB1 : Hid (i0 + 1 = i1 ∧ (i1 : Int) ≤ 9223372036854775807) := ⟨hi1, by omega⟩
    have HRES2 : Hid (deepB v (i0 : Int) least most = clearFrom least most v.levels (i0 + 1)) := HRES.out
    clear HRES hl0 hmx hl1 hl2 hi1
    go_wp2_with fail
    clear t2
    go_loopw [9] (fun iv wr => ∃ (i : Nat), iv = .int .i64 (i : Int) ∧ 1 ≤ i ∧ Hid ((i : Int) ≤ 9223372036854775807) ∧ Hid (clearFrom least most v.levels (i0 + 1) = clearFrom least most v.levels i) ∧ Hid (Below w2.heap.size w2 wr)) (fun iv _ => 5 - (intOf iv).toNat)
    case atStart => exact ⟨i1, int_eq HT2.out, by have := HB1.out.1; omega, HB1.out.2, by show _ = _; rw [HB1.out.1], Below.refl _ _⟩
    case round =>
      obtain ⟨i, rfl, hi1, HI2, HCF, HB⟩ := hrel
      have x0 : wr.cell? ⟨xb, 0, none⟩ = some (.slice xa 5 ca) := (HX2.out.below HB.out HX2.out.lt).cell rfl
      have t5 : 0 < (i : Int) := by omega
      have t6 : 0 < i := by omega
      by_cases hlt : i < 5
      · have t7 : (i : Int) < 5 := by omega
        have t8 : 0 ≤ (i : Int) := by omega
        have hil : i < v.levels.length := by rw [HM.out]; exact hlt
        obtain ⟨bl, ol, capl, el, hbl, _, hcl⟩ := levs_at HA.out (by omega)
        obtain ⟨u, hu, c0⟩ := hcl i hil
        injection el with e1 e2 e3
        subst e1 e3
        have HBW : Hid (Below w.heap.size w wr) := HW2.out.trans (HB.out.mono HW2.out.size)
        have c0 := (HBW.out.cell (p := ⟨bl, ol + i, none⟩) hbl).trans c0
        have HST := Lib.hid (clearFrom_step least most hil)
        have HLL := Lib.hid (Nat.le_trans (lev_le_cnt hil) HCN.out)
        obtain ⟨l, hl⟩ : ∃ l, lat v.levels i = l := ⟨_, rfl⟩
        rw [hl] at hu HST HLL
        obtain ⟨ua, uc, rfl⟩ := hu.isSlice
        have HU := Lib.hid (hu.below HBW.out)
        have HY5 := Lib.hid (HY3.out.below HB.out HY3.out.lt)
        have HY6 := Lib.hid (HY4.out.below HB.out HY4.out.lt)
        clear e2 hcl hu hl hil
        go_wp2_with fail
        clear c0 x0
        refine Calls.mono (fcontains_any _ 76 #[.pointer (some ⟨b1, 0, none⟩), .pointer (some ⟨b2, 0, none⟩)] (lapB least most) _ l _ HU.out (Nat.le_trans HLL.out (by decide)) (deep1_asks _ _ least most _ _ b1 b2 l _ (H1.out.below HBW.out) (H2.out.below HBW.out) (HY5.out.cell rfl) (HY6.out.cell rfl) HY5.out.lt HY6.out.lt) deep1_bodied) ?_
        rintro _ w3 ⟨rfl, hb⟩
        have HB3 : Hid (Below w2.heap.size w2 w3) := HB.out.trans (hb.mono HB.out.size)
        clear hb HU HY5 HY6 HBW HB
        obtain ⟨r, hr⟩ : ∃ r, l.any (lapB least most) = r := ⟨_, rfl⟩
        rw [hr] at HST
        rw [hr]
        clear hr
        cases r with
        | true =>
          have HF : Hid (deepB v (i0 : Int) least most = false) := by show _ = _; rw [HRES2.out, HCF.out, HST.out]; rfl
          go_wp2_with fail
          go_ret
          exact ⟨ret_bool HF.out.symm, HW2.out.trans (HB3.out.mono HW2.out.size)⟩
        | false =>
          have HCF2 : Hid (clearFrom least most v.levels (i0 + 1) = clearFrom least most v.levels (i + 1)) := by show _ = _; rw [HCF.out, HST.out]; rfl
          go_wp2_with fail
          go_roundw
          · exact ⟨i + 1, by go_num, by omega, by show _ ≤ _; omega, HCF2.out, HB3.out⟩
          · simp only [intOf]; omega
      · have t7 : ¬ (i : Int) < 5 := by omega
        have HF : Hid (deepB v (i0 : Int) least most = true) := by show _ = _; rw [HRES2.out, HCF.out]; exact clearFrom_end _ _ _ (by rw [HM.out]; omega)
        go_wp2_with fail
        go_ret
        exact ⟨ret_bool HF.out.symm, HW2.out.trans (HB.out.mono HW2.out.size)⟩
end Go.Proofs.Ytkcohhldmhdcfaa
