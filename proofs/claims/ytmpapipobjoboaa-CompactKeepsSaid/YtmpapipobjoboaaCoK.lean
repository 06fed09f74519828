/- compact: Cut. -/
import Derived.Test.YtmpapipobjoboaaCoJ
import Derived.Test.YtmpapipobjoboaaMgGc
namespace Go.Proofs.Ytmpapipobjoboaa
open Go.RowKit

theorem frozen_of_block {w w' : World} {b k : Nat} (h : w'.heap[b]? = w.heap[b]?) : w'.frozen? ⟨b, k, none⟩ = w.frozen? ⟨b, k, none⟩ := by
  unfold World.frozen?
  rw [show w'.heap[(⟨b, k, none⟩ : Addr).block]? = w.heap[b]? from h]
theorem vals_at {A : Nat} {w : World} {v : Value} {us : List Value} (h : ROwnF valK (fun _ => False) A 31 w v us) (hn : 0 < us.length) :
    ∃ g cap, v = .slice (some ⟨g, 0, none⟩) us.length cap ∧ A ≤ g ∧ g < w.heap.size ∧ (∀ i, i < us.length → w.cell? ⟨g, i, none⟩ = some (uq us i)) ∧ ∀ i, w.frozen? ⟨g, i, none⟩ = false := by
  obtain ⟨cs, h1, h2⟩ := h
  obtain ⟨rfl, _⟩ := els_vals h2
  obtain ⟨h0, ⟨rfl, hz⟩ | ⟨g, cap, cur, rfl, hb, hg, hnc, hcm, hs, htk⟩⟩ := id h1
  · omega
  · refine ⟨g, cap, rfl, hb, (World.ownsRow.lt h1 g rfl).2, fun i hi => ?_, fun i => World.ownsRow.frozenAt h1 i⟩
    rw [World.ownsRow.cellAt h1 i (by show i < _ * 1; omega)]
    simp [uq, hi]

set_option maxRecDepth 100000 in
set_option maxHeartbeats 8000000 in
theorem ccut_any (F : Nat → Prop) (v : Value) (l : List Ent) (t : Int) (w : World) (h : Rw entK F w v l) (hfew : l.length ≤ 100000) (hsz : ∀ i, i < l.length → (eat l i).key.length + (eat l i).value.length ≤ 100000) :
    Calls Try.prog 11 #[v, .int .i64 t] w (CutPost t l w) := by
  have HCA := Lib.hid (fun r hr => mcheck_at F v l w h (by omega) (r := r) hr)
  obtain ⟨xa, ca, rfl⟩ := h.isSlice
  have HA : Hid (Rw entK (fun k => F k ∧ k < w.heap.size) w (.slice xa l.length ca) l) := h.mono fun k hk h => ⟨h, hk⟩
  have HSZ := Lib.hid hsz
  have HCS := Lib.hid (cut_size (t := t) hsz)
  clear h hsz
  obtain ⟨n, hn⟩ : ∃ n, l.length = n := ⟨_, rfl⟩
  have HN := Lib.hid hn
  rw [hn] at HA HCA hfew
  rw [hn]
  clear hn
  go_enter Try.func11, Try.ntmps11
  go_wp2_with fail
  cases hrb : rowB l with
  | false =>
    refine Calls.mono (HCA.out 2 (by unfold chkE; rw [hrb]; rfl)) ?_
    rintro _ w1 ⟨rfl, hb⟩
    have HP : Hid (CutPost t l w (.returned (.tuple #[.slice none 0 0, .int .i64 2])) w1) := ⟨(fun e => by rw [hrb] at e; cases e.1), fun _ => rfl, hb⟩
    clear hb hrb HCA
    go_wp2_with fail
    go_ret2
    exact HP.out
  | true =>
    refine Calls.mono (HCA.out 0 (by unfold chkE; rw [hrb]; rfl)) ?_
    rintro _ w1 ⟨rfl, hb⟩
    have HW1 := Lib.hid hb
    have HRB := Lib.hid hrb
    clear hb hrb HCA
    by_cases ht1 : t < 1
    · have HP : Hid (CutPost t l w (.returned (.tuple #[.slice none 0 0, .int .i64 2])) w1) := ⟨(fun e => by omega), fun _ => rfl, HW1.out⟩
      go_wp2_with fail
      go_ret2
      exact HP.out
    by_cases ht2 : 16777216 < t
    · have HP : Hid (CutPost t l w (.returned (.tuple #[.slice none 0 0, .int .i64 2])) w1) := ⟨(fun e => by omega), fun _ => rfl, HW1.out⟩
      go_wp2_with fail
      go_ret2
      exact HP.out
    have HT : Hid (1 ≤ t ∧ t ≤ 16777216) := ⟨by omega, by omega⟩
    go_wp2_with fail
    go_loopw [7, 8, 24] (fun ov sv iv wr => ∃ (j : Nat) (us : List Value), iv = .int .i64 (j : Int) ∧ j ≤ n ∧ sv = .int .i64 (sizeE (lastF (cutTo t l j)) : Int) ∧ Hid (Fl (fun _ => True) w.heap.size wr ov us (cutTo t l j)) ∧ Hid (Below w.heap.size w wr)) (fun _ _ iv _ => n - (intOf iv).toNat)
    case atStart => exact ⟨0, [], rfl, by omega, rfl, Fl.nil _ _ _, HW1.out⟩
    case round =>
      obtain ⟨j, us, rfl, hj, rfl, HFL, HB⟩ := hrel
      obtain ⟨oo, oc, hov⟩ := HFL.out.arr.isSlice
      rw [HFL.out.len] at hov
      subst hov
      clear HW1
      obtain ⟨fs, hfs⟩ : ∃ fs, cutTo t l j = fs := ⟨_, rfl⟩
      have HFS := Lib.hid hfs
      obtain ⟨sz, hsz⟩ : ∃ sz, sizeE (lastF fs) = sz := ⟨_, rfl⟩
      have HZ := Lib.hid hsz
      rw [hfs] at HFL
      rw [hfs, hsz]
      have hszl : sz ≤ 10003200000 := by
        have := (HCS.out j (by rw [HN.out]; exact hj)).1
        rw [hfs, hsz] at this
        omega
      clear hfs hsz
      by_cases hlt : j < n
      · have t1 : (j : Int) < (n : Int) := by omega
        have t3 : 0 ≤ (j : Int) := by omega
        have hl1 : j < l.length := by rw [HN.out]; exact hlt
        have HAr := Lib.hid (HA.out.below HB.out)
        obtain ⟨ba, oa, capa, ea, _, hba, hca⟩ := ents_at HAr.out (by omega)
        injection ea with e1 e2 e3
        subst e1 e3
        clear e2
        have HCA : Hid (∀ i, i < n → ∃ vk vv, Bytes (fun k => F k ∧ k < w.heap.size) wr vk (eat l i).key ∧ Bytes (fun k => F k ∧ k < w.heap.size) wr vv (eat l i).value ∧ C4o ba (oa + i * 4) (eat l i) vk vv wr) := by
          intro i hi
          have hil : i < l.length := by rw [HN.out]; exact hi
          obtain ⟨vk, vv, g1, g2, g3⟩ := hca i hil
          rw [eat_eq hil] at g1 g2 g3
          exact ⟨vk, vv, g1, g2, g3⟩
        have HBA : Hid (ba < wr.heap.size) := hba
        have HLE := Lib.hid (HSZ.out j hl1)
        clear hca hba hl1
        obtain ⟨vk, vv, hk, hv, c0, c1, c2, c3⟩ := HCA.out j hlt
        obtain ⟨e, he⟩ : ∃ e, eat l j = e := ⟨_, rfl⟩
        have HE := Lib.hid he
        rw [he] at hk hv c1 c2 HLE
        clear he
        obtain ⟨ka, kc, rfl⟩ := hk.isSlice
        obtain ⟨va, vc, rfl⟩ := hv.isSlice
        have HK := Lib.hid hk
        have HV := Lib.hid hv
        clear hk hv
        go_upto_region 11 with fail
        refine wp_gen fun w1 hw1 => ?_
        have HW1 : Hid (Below wr.heap.size wr w1) := by rw [hw1]; exact (Below.refl _ _).alloc (Nat.le_refl _) _
        have HE1 : Hid (Blk w1 wr.heap.size (entCells e (.slice ka e.key.length kc) (.slice va e.value.length vc)).toArray 29) := by rw [hw1]; exact Blk.at_new rfl rfl
        have HFL1 : Hid (Fl (· ≠ wr.heap.size) w.heap.size w1 (.slice oo fs.length oc) us fs) := (HFL.out.mono fun k hk _ => Nat.ne_of_lt hk).below HW1.out
        clear hw1 c0 c1 c2 c3 HFL
        have HXB : Hid (wr.heap.size < w1.heap.size ∧ w.heap.size ≤ wr.heap.size) := ⟨HE1.out.lt, HB.out.size⟩
        have HB1 : Hid (Below w.heap.size w w1) := HB.out.trans (HW1.out.mono HB.out.size)
        have HKe := Lib.hid (HK.out.below HW1.out)
        have HVe := Lib.hid (HV.out.below HW1.out)
        have HCA1 : Hid (∀ i, i < n → ∃ vk vv, Bytes (fun k => F k ∧ k < w.heap.size) w1 vk (eat l i).key ∧ Bytes (fun k => F k ∧ k < w.heap.size) w1 vv (eat l i).value ∧ C4o ba (oa + i * 4) (eat l i) vk vv w1) := fun i hi => by
          obtain ⟨vk, vv, g1, g2, g3⟩ := HCA.out i hi
          exact ⟨vk, vv, g1.below HW1.out, g2.below HW1.out, g3.keep HW1.out HBA.out⟩
        have HBA1 : Hid (ba < w1.heap.size) := Nat.lt_of_lt_of_le HBA.out HW1.out.size
        clear HCA HK HV HAr HB HW1 HBA
        generalize wr.heap.size = xb at *
        go_cut [45] from 29 to 44 (fun x wx => (∃ b : Bool, x = .bool b ∧ Hid (b = true ↔ NewF t l j fs)) ∧ Hid (Below w1.heap.size w1 wx))
        case first =>
          have x0 : w1.cell? ⟨xb, 0, none⟩ = some (.slice ka e.key.length kc) := HE1.out.cell rfl
          have x1 : w1.cell? ⟨xb, 1, none⟩ = some (.int .u64 e.seq) := HE1.out.cell rfl
          have x2 : w1.cell? ⟨xb, 2, none⟩ = some (.int .i64 e.kind) := HE1.out.cell rfl
          have x3 : w1.cell? ⟨xb, 3, none⟩ = some (.slice va e.value.length vc) := HE1.out.cell rfl
          cases j with
          | zero =>
            go_wp2_with fail
            go_quiet (fail)
            all_goals
              go_wp2_with fail
              go_meet
              exact ⟨⟨true, rfl, by show _ ↔ _; simp [NewF]⟩, below_dn (Below.refl _ _) _⟩
          | succ j =>
            have t4 : IntKind.i64.wrap ((j : Int) + 1 - 1) = (j : Int) := by rw [wrap_small (by omega) (by omega)]; omega
            have t5 : IntKind.i64.wrap (j : Int) = (j : Int) := wrap_small (by omega) (by omega)
            have t7 : (j : Int) < (n : Int) := by omega
            have t8 : 0 ≤ (j : Int) := by omega
            have t9 : ((j : Int) + 1 == 0) = false := by simp; omega
            obtain ⟨pk, pv, hpk, hpv, hpc⟩ := HCA1.out j (by omega)
            obtain ⟨p, hp⟩ : ∃ p, eat l j = p := ⟨_, rfl⟩
            have HPP := Lib.hid hp
            rw [hp] at hpk hpv hpc
            clear hp
            obtain ⟨pka, pkc, rfl⟩ := hpk.isSlice
            obtain ⟨pva, pvc, rfl⟩ := hpv.isSlice
            by_cases hts : t ≤ (sz : Int)
            · obtain ⟨r, hr⟩ : ∃ r, decide (p.key = e.key) = r := ⟨_, rfl⟩
              have HR := Lib.hid hr
              have HK1 := Lib.hid (hpk.below (below_drew (Below.refl _ _)))
              have HK2 : Hid (Bytes (fun k => F k ∧ k < w.heap.size) w1.drew (.slice ka e.key.length kc) e.key) := HKe.out.below (below_drew (Below.refl _ _))
              have HC1 : Hid (C4o ba (oa + j * 4) p (.slice pka p.key.length pkc) (.slice pva p.value.length pvc) w1.drew) := hpc
              have HC2 : Hid (C4o xb 0 e (.slice ka e.key.length kc) (.slice va e.value.length vc) w1.drew) := ⟨HE1.out.cell rfl, HE1.out.cell rfl, HE1.out.cell rfl, HE1.out.cell rfl⟩
              have HZ1 : Hid (ba < w1.drew.heap.size) := HBA1.out
              have HZ2 : Hid (xb < w1.drew.heap.size) := HXB.out.1
              clear hpk hpv hpc hr x0 x1 x2 x3
              go_wp2_with fail
              go_region_held3 (fun w' => (w'.cell? ⟨ba, oa + j * 4, none⟩ = some (.slice pka p.key.length pkc) ∧ w'.cell? ⟨ba, oa + j * 4 + 1, none⟩ = some (.int .u64 p.seq) ∧ w'.cell? ⟨ba, oa + j * 4 + 2, none⟩ = some (.int .i64 p.kind) ∧ w'.cell? ⟨ba, oa + j * 4 + 3, none⟩ = some (.slice pva p.value.length pvc)) ∧ (w'.cell? ⟨xb, 0, none⟩ = some (.slice ka e.key.length kc) ∧ w'.cell? ⟨xb, 1, none⟩ = some (.int .u64 e.seq) ∧ w'.cell? ⟨xb, 2, none⟩ = some (.int .i64 e.kind) ∧ w'.cell? ⟨xb, 3, none⟩ = some (.slice va e.value.length vc)))
                (first | exact ⟨HC1.out, HC2.out⟩ | exact ⟨HC1.out.keep hbx1 HZ1.out, HC2.out.keep hbx1 HZ2.out⟩)
                (first | (go_at_call 49; refine Calls.mono (samekey_at _ _ p e r HR.out (.slice pka p.key.length pkc) (.slice pva p.value.length pvc) (.slice ka e.key.length kc) (.slice va e.value.length vc) _ HK1.out HK2.out) ?_; rintro _ x1 ⟨rfl, hbx1⟩; skip))
              have HBX : Hid (Below w1.heap.size w1 x1) := below_of_drew hbx1
              have HNF : Hid ((!r) = true ↔ NewF t l (j + 1) fs) := by
                show _ ↔ _
                unfold NewF
                rw [Nat.add_sub_cancel, HPP.out, HE.out, HZ.out, ← HR.out]
                simp [hts]
              clear hbx1 HC1 HC2 HK1 HK2
              cases r with
              | true =>
                go_wp2_with fail
                go_meet
                exact ⟨⟨false, rfl, HNF.out⟩, HBX.out⟩
              | false =>
                go_wp2_with fail
                go_meet
                exact ⟨⟨true, rfl, HNF.out⟩, HBX.out⟩
            · have hts' : decide (t ≤ (sz : Int)) = false := decide_eq_false hts
              have HNF : Hid (false = true ↔ NewF t l (j + 1) fs) := by
                show _ ↔ _
                unfold NewF
                rw [HZ.out]
                simp [hts]
              clear hpk hpv hpc
              go_wp2_with fail
              go_quiet (fail)
              all_goals
                go_wp2_with fail
                go_meet
                exact ⟨⟨false, rfl, HNF.out⟩, below_dn (Below.refl _ _) _⟩
        case rest =>
          obtain ⟨⟨b, rfl, HNF⟩, HBc⟩ := hcut
          have HE2 := Lib.hid (HE1.out.below HBc.out HE1.out.lt)
          have HFL2 := Lib.hid (HFL1.out.below HBc.out)
          have HK2 := Lib.hid (HKe.out.below HBc.out)
          have HV2 := Lib.hid (HVe.out.below HBc.out)
          have HW2 : Hid (Below w.heap.size w wc) := HB1.out.trans (HBc.out.mono HB1.out.size)
          have HXC : Hid (xb < wc.heap.size) := Nat.lt_of_lt_of_le HXB.out.1 HBc.out.size
          clear HE1 HFL1 HKe HVe HB1 HBc HCA1 HBA1
          go_upto_if 45 with fail
          go_cut [7, 8] from 46 to 48 (fun ov sv wx => ∃ us a c, ov = .slice a (openF t l j fs).length c ∧ sv = .int .i64 (sizeE (lastF (openF t l j fs)) : Int) ∧ Hid (Fl (· ≠ xb) w.heap.size wx (.slice a (openF t l j fs).length c) us (openF t l j fs)) ∧ Hid (Below w.heap.size w wx) ∧ Hid (Blk wx xb (entCells e (.slice ka e.key.length kc) (.slice va e.value.length vc)).toArray 29))
          case first =>
            cases b with
            | false =>
              have hop : openF t l j fs = fs := openF_old fun h => by have := HNF.out.2 h; cases this
              go_wp2_with fail
              go_meet
              exact ⟨us, oo, oc, by rw [hop], by rw [hop, HZ.out], by rw [hop]; exact HFL2.out, HW2.out, HE2.out⟩
            | true =>
              have hop : openF t l j fs = fs ++ [[]] := openF_new (HNF.out.1 rfl)
              have HOP := Lib.hid hop
              clear hop
              have HLen : Hid (us.length < 1000000) := by
                show _ < _
                rw [HFL2.out.len, ← HFS.out]
                have := cutTo_len t l j
                omega
              go_wp2_with (with_reducible refine pause_append ?_)
              refine list_gen fun w3 hw3 => ?_
              have HB3 : Hid (Below wc.heap.size wc w3) := by rw [hw3]; exact (Below.refl _ _).alloc (Nat.le_refl _) _
              have HS3 : Hid (Blk w3 wc.heap.size #[.slice none 0 0] 31) := by rw [hw3]; exact Blk.at_new rfl rfl
              clear hw3
              have HFL3 := Lib.hid (HFL2.out.below HB3.out)
              have HSZ3 : Hid (w.heap.size ≤ w3.heap.size ∧ xb < w3.heap.size) := ⟨Nat.le_trans HW2.out.size HB3.out.size, Nat.lt_of_lt_of_le HXC.out HB3.out.size⟩
              refine Pause.go (wpList_append_elF (K := valK) 22 31 _ 24 Try.underlying22 info_val rfl (fun _ => False) w.heap.size _ us wc.heap.size 31 _ (.slice none 0 0) rfl _ _ rfl rfl rfl HFL3.out.arr HS3.out ⟨rfl, rfl⟩ HLen.out (by decide) HSZ3.out.1 ?_)
              intro v4 w4 hro hg
              have HFL4 := Lib.hid (HFL3.out.more hro hg (fun k hk e => by have := HSZ3.out.2; omega))
              have HB4 : Hid (Below w.heap.size w w4) := (HW2.out.trans (HB3.out.mono HW2.out.size)).trans (hg.below HSZ3.out.1 fun k e => (HFL3.out.arr.lt k e).1)
              have HE4 : Hid (Blk w4 xb (entCells e (.slice ka e.key.length kc) (.slice va e.value.length vc)).toArray 29) := (HE2.out.below HB3.out HE2.out.lt).same (hg.grown.block xb HSZ3.out.2 fun e0 => HFL3.out.da xb e0.symm rfl)
              obtain ⟨a4, c4, hv4⟩ := hro.isSlice
              rw [show (us ++ [Value.slice none 0 0]).length = (openF t l j fs).length by rw [HOP.out, List.length_append, List.length_append, HFL2.out.len]; rfl] at hv4
              subst hv4
              clear hro hg HFL3 HS3 HB3
              go_wp2_with fail
              go_meet
              exact ⟨_, a4, c4, rfl, by rw [HOP.out, lastF_new]; rfl, by rw [HOP.out] at HFL4 ⊢; exact HFL4.out, HB4.out, HE4.out⟩
          case rest =>
            obtain ⟨us2, o2, c2, rfl, rfl, HF0, HW3, HE3⟩ := hcut
            have HK3 : Hid (Bytes (fun k => F k ∧ k < w.heap.size) wc (.slice ka e.key.length kc) e.key) := (HK2.out.keep fun k hk hF => (HW3.out.block k hF.2).trans (HW2.out.block k hF.2).symm)
            have HV3 : Hid (Bytes (fun k => F k ∧ k < w.heap.size) wc (.slice va e.value.length vc) e.value) := (HV2.out.keep fun k hk hF => (HW3.out.block k hF.2).trans (HW2.out.block k hF.2).symm)
            have HCT : Hid (cutTo t l (j + 1) = (openF t l j fs).set ((openF t l j fs).length - 1) (lastF (openF t l j fs) ++ [e])) := by show _ = _; rw [cutTo_succ, HFS.out, HE.out]
            have HGP : Hid (0 < (openF t l j fs).length) := by have := openF_pos t l j; rw [HFS.out] at this; exact this
            have HGL : Hid ((openF t l j fs).length ≤ j + 1) := by
              have := cutTo_len t l (j + 1)
              rw [HCT.out, List.length_set] at this
              exact this
            have HNS := HCS.out (j + 1) (by rw [HN.out]; omega)
            have HLS : Hid ((lastF (openF t l j fs)).length ≤ 100000 ∧ sizeE (lastF (openF t l j fs)) ≤ 10003300000) := by
              rw [lastF_cut, HFS.out, HE.out, sizeE_snoc, List.length_append, List.length_singleton] at HNS
              exact ⟨by omega, by omega⟩
            clear HNS HE2 HFL2 HK2 HV2 HW2 HNF HXC
            obtain ⟨gs, hgs⟩ : ∃ gs, openF t l j fs = gs := ⟨_, rfl⟩
            rw [hgs] at HF0 HCT HGP HGL HLS
            rw [hgs]
            clear hgs
            obtain ⟨m, hm⟩ : ∃ m, gs.length = m + 1 := ⟨gs.length - 1, by have := HGP.out; omega⟩
            have HM := Lib.hid hm
            have hmj : m ≤ j := by have := HGL.out; omega
            have HUL : Hid (us2.length = m + 1) := by show _ = _; rw [HF0.out.len, hm]
            rw [hm] at HF0
            rw [hm]
            clear hm HGP HGL
            obtain ⟨cur, hcur⟩ : ∃ cur, lastF gs = cur := ⟨_, rfl⟩
            have HCU : Hid (gs.getD m [] = cur) := by
              rw [← hcur]
              show _ = gs.getD (gs.length - 1) []
              rw [HM.out]; rfl
            rw [hcur] at HCT HLS
            rw [hcur]
            clear hcur
            obtain ⟨z2, hz2⟩ : ∃ z, sizeE cur = z := ⟨_, rfl⟩
            have HZ2 := Lib.hid hz2
            rw [hz2] at HLS
            rw [hz2]
            clear hz2
            have HBL : Hid (e.key.length ≤ 140737488355328 ∧ e.value.length ≤ 140737488355328) := by have := HLE.out; exact ⟨by omega, by omega⟩
            go_upto_region 14 with fail
            have HK1 : Hid (Bytes (fun k => F k ∧ k < w.heap.size) wc.drew (.slice ka e.key.length kc) e.key) := HK3.out.below (below_drew (Below.refl _ _))
            have HV1 : Hid (Bytes (fun k => F k ∧ k < w.heap.size) wc.drew (.slice va e.value.length vc) e.value) := HV3.out.below (below_drew (Below.refl _ _))
            have k0 : wc.drew.cell? ⟨xb, 0, none⟩ = some (.slice ka e.key.length kc) := HE3.out.cell rfl
            have k3 : wc.drew.cell? ⟨xb, 3, none⟩ = some (.slice va e.value.length vc) := HE3.out.cell rfl
            have HE0 : Hid (Blk wc.drew xb (entCells e (.slice ka e.key.length kc) (.slice va e.value.length vc)).toArray 29) := HE3.out
            have HF1 : Hid (Fl (· ≠ xb) w.heap.size wc.drew (.slice o2 (m + 1) c2) us2 gs) := HF0.out.below (below_drew (Below.refl _ _))
            have HW0 : Hid (Below w.heap.size w wc.drew) := below_drew HW3.out
            clear HE3 HK3 HV3 HF0 HW3
            go_region_law (first
              | (go_simp; go_at_call 50; refine Calls.mono (clone_any _ (.slice ka e.key.length kc) e.key _ HK1.out HBL.out.1) ?_; rintro _ x1 ⟨v1, rfl, ho1, hb1⟩; obtain ⟨a1, n1, rfl⟩ := (Owned.bytesFrom ho1).isSlice; have HE2 := Lib.hid (HE0.out.below hb1 HE0.out.lt); have k3x : x1.cell? ⟨xb, 3, none⟩ = some (.slice va e.value.length vc) := HE2.out.cell rfl)
              | (go_simp; go_at_call 50; refine Calls.mono (clone_any _ (.slice va e.value.length vc) e.value _ (HV1.out.below hb1) HBL.out.2) ?_; rintro _ x2 ⟨v2, rfl, ho2, hb2⟩; obtain ⟨a2, n2, rfl⟩ := (Owned.bytesFrom ho2).isSlice; have HE3 := Lib.hid (HE2.out.below hb2 HE2.out.lt); have k0y : x2.cell? ⟨xb, 0, none⟩ = some (.slice ka e.key.length kc) := HE3.out.cell rfl; have k3y : x2.cell? ⟨xb, 3, none⟩ = some (.slice va e.value.length vc) := HE3.out.cell rfl; have f0y := HE3.out.free 0; have f3y := HE3.out.free 3))
            all_goals
              go_upto_region 15 with fail
              refine wp_gen fun w5 hw5 => ?_
              have HE5 : Hid (Blk w5 xb (entCells e (.slice a1 e.key.length n1) (.slice a2 e.value.length n2)).toArray 29) := by rw [hw5]; exact (HE3.out.set 0 _).set 3 _
              have hz : xb < wc.drew.heap.size := HE0.out.lt
              have HK5 : Hid (Bytes (fun k => wc.drew.heap.size ≤ k) w5 (.slice a1 e.key.length n1) e.key) := by
                rw [hw5]
                refine ((Owned.bytesFrom ho1).below hb2).keep fun k _ hk => ?_
                rw [heap_setCell_other _ _ _ _ (by show k ≠ xb; omega), heap_setCell_other _ _ _ _ (by show k ≠ xb; omega)]
              have HV5 : Hid (Bytes (fun k => wc.drew.heap.size ≤ k) w5 (.slice a2 e.value.length n2) e.value) := by
                rw [hw5]
                refine ((Owned.bytesFrom ho2).mono (F' := fun k => wc.drew.heap.size ≤ k) fun k _ hk => Nat.le_trans hb1.size hk).keep fun k _ hk => ?_
                rw [heap_setCell_other _ _ _ _ (by show k ≠ xb; omega), heap_setCell_other _ _ _ _ (by show k ≠ xb; omega)]
              have HWR : Hid (Wrote (fun k => k = xb) wc.drew w5) := by
                rw [hw5]
                exact Wrote.setCell (S := fun k => k = xb) (Wrote.setCell (S := fun k => k = xb) ((Wrote.of_below hb1).trans (Wrote.of_below hb2)) _ _ (.inl rfl)) _ _ (.inl rfl)
              have HF5 : Hid (Fl (· ≠ xb) w.heap.size w5 (.slice o2 (m + 1) c2) us2 gs) := HF1.out.wrote HWR.out fun k hk e0 => hk e0
              have HW5 : Hid (Below w.heap.size w w5) := HW0.out.trans (HWR.out.below HW0.out.size fun k hk => by rw [hk]; exact HXB.out.2)
              have HFR : Hid (∀ k, wc.drew.heap.size ≤ k → (w.heap.size ≤ k ∧ k ≠ xb ∧ Free (.slice o2 (m + 1) c2) us2 k)) := fun k hk => ⟨Nat.le_trans HW0.out.size hk, (by omega), fun e0 => by have := (HF1.out.arr.lt k e0).2; omega, fun i hi e0 => by have := ((HF1.out.row i hi).lt k e0).2; omega⟩
              clear hw5 HE3 HE2 HE0 HK1 HV1 HW0 HF1 HWR ho1 ho2 hb1 hb2 k0 k3 k3x k0y k3y f0y f3y hz
              obtain ⟨go, gcap, ev, _, hgo, hcell, hfree⟩ := vals_at HF5.out.arr (by rw [HUL.out]; omega)
              injection ev with ev1 ev2 ev3
              subst ev1 ev3
              clear ev2
              have hum := hcell m (by rw [HUL.out]; omega)
              have hufr := hfree m
              have hrow := HF5.out.row m (by rw [HUL.out]; omega)
              rw [HCU.out] at hrow
              obtain ⟨ua, uc, hu⟩ := hrow.isSlice
              rw [hu] at hum hrow
              have HUQ := Lib.hid hu
              have HRW := Lib.hid hrow
              have HCL : Hid (cur.length < 1000000) := Nat.lt_of_le_of_lt HLS.out.1 (by decide)
              have HGO : Hid (go < w5.heap.size) := hgo
              have HUM : Hid (w5.cell? ⟨go, m, none⟩ = some (.slice ua cur.length uc)) := hum
              have HUF : Hid (w5.frozen? ⟨go, m, none⟩ = false) := hufr
              have HSZ5 : Hid (w.heap.size ≤ w5.heap.size) := HW5.out.size
              have x0 : w5.cell? ⟨xb, 0, none⟩ = some (.slice a1 e.key.length n1) := HE5.out.cell rfl
              have x1 : w5.cell? ⟨xb, 1, none⟩ = some (.int .u64 e.seq) := HE5.out.cell rfl
              have x2 : w5.cell? ⟨xb, 2, none⟩ = some (.int .i64 e.kind) := HE5.out.cell rfl
              have x3 : w5.cell? ⟨xb, 3, none⟩ = some (.slice a2 e.value.length n2) := HE5.out.cell rfl
              have y0 : ∀ o, (w5.alloc o).cell? ⟨go, m, none⟩ = some (.slice ua cur.length uc) := fun o => Lib.cell?_alloc_some o HUM.out
              have t10 : IntKind.i64.wrap ((m : Int) + 1 - 1) = (m : Int) := by rw [wrap_small (by omega) (by omega)]; omega
              have t11 : IntKind.i64.wrap (m : Int) = (m : Int) := wrap_small (by omega) (by omega)
              have t12 : (m : Int) < (m : Int) + 1 := by omega
              have t13 : 0 ≤ (m : Int) := by omega
              clear hcell hfree hu hrow hgo hum hufr
              have z0 : w5.cell? ⟨go, m, none⟩ = some (.slice ua cur.length uc) := HUM.out
              go_wp2_with fail
              go_region_law (refine step_append_elF (K := entK) 31 29 _ 64 Try.underlying31 info_entO rfl _ w.heap.size (.slice ua cur.length uc) cur w5.heap.size 29 #[.slice a1 e.key.length n1, .int .u64 e.seq, .int .i64 e.kind, .slice a2 e.value.length n2] e rfl (.tmp 66) (.tmp 68) rfl (by rfl) (by rfl) (HRW.out.below (below_drew (below_al (Below.refl _ _) _))) (Blk.drewP (Blk.at_new rfl rfl)) ⟨_, _, rfl, (HK5.out.below (below_drew (below_al (Below.refl _ _) _))).mono fun k _ hk => ⟨HFR.out k hk, fun e0 => (HFR.out k hk).2.2.2 m (by rw [HUL.out]; omega) (by rw [HUQ.out]; exact e0)⟩, (HV5.out.below (below_drew (below_al (Below.refl _ _) _))).mono fun k _ hk => ⟨HFR.out k hk, fun e0 => (HFR.out k hk).2.2.2 m (by rw [HUL.out]; omega) (by rw [HUQ.out]; exact e0)⟩⟩ HCL.out (by decide) (Nat.le_trans HSZ5.out (below_drew (below_al (Below.refl _ _) _)).size) ?_; intro v9 w9 hro hg; obtain ⟨a9, c9, e9⟩ := hro.isSlice; rw [List.length_append, List.length_singleton] at e9; subst e9; have hgo9 : w9.heap[go]? = w5.heap[go]? := (hg.grown.block go (Nat.lt_of_lt_of_le HGO.out (below_drew (below_al (Below.refl _ _) _)).size) (fun e0 => HF5.out.ne m go (by rw [HUL.out]; omega) (by rw [HUQ.out]; exact e0.symm) rfl)).trans ((below_drew (below_al (Below.refl w5.heap.size w5) _)).block go HGO.out); have k9 : w9.cell? ⟨go, m, none⟩ = some (.slice ua cur.length uc) := (World.cell?_of_block (w := w5) hgo9).trans HUM.out; have f9 : w9.frozen? ⟨go, m, none⟩ = false := (frozen_of_block (w := w5) hgo9).trans HUF.out; have HRO9 := Lib.hid hro; have HG9 := Lib.hid hg; clear hro hg hgo9)
              all_goals
                go_upto_region 16 with fail
                refine wp_gen fun w10 hw10 => ?_
                have HF10 : Hid (Fl (· ≠ xb) w.heap.size w10 (.slice (some ⟨go, 0, none⟩) (m + 1) c2) (us2.set m (.slice a9 (cur.length + 1) c9)) (gs.set m (cur ++ [e]))) := by
                  rw [hw10]
                  have h0 := HF5.out.below (below_drew (below_al (Below.refl w5.heap.size w5) (.cells #[.slice a1 e.key.length n1, .int .u64 e.seq, .int .i64 e.kind, .slice a2 e.value.length n2] 29)))
                  have h1 := Fl.last (g := go) (cap := c2) (m := m) (u' := .slice a9 (cur.length + 1) c9) (cur := cur ++ [e]) (by rw [HUL.out]; exact h0) (by rw [HUL.out]; omega) (by rw [HUL.out]; exact HRO9.out) (by rw [HUQ.out]; exact HG9.out) rfl (fun k hk e0 => by have := HE5.out.lt; have := (below_drew (below_al (Below.refl w5.heap.size w5) (.cells #[.slice a1 e.key.length n1, .int .u64 e.seq, .int .i64 e.kind, .slice a2 e.value.length n2] 29))).size; omega)
                  rw [HUL.out] at h1
                  exact h1
                have HE10 : Hid (Blk w10 xb (entCells e (.slice a1 e.key.length n1) (.slice a2 e.value.length n2)).toArray 29) := by
                  rw [hw10]
                  exact ((HE5.out.below (below_drew (below_al (Below.refl w5.heap.size w5) _)) HE5.out.lt).same (HG9.out.grown.block xb (Nat.lt_of_lt_of_le HE5.out.lt (below_drew (below_al (Below.refl w5.heap.size w5) _)).size) fun e0 => HF5.out.dr m xb (by rw [HUL.out]; omega) (by rw [HUQ.out]; exact e0.symm) rfl)).set_other _ _ (HF5.out.da go rfl)
                have HB10 : Hid (Below w.heap.size w w10) := by
                  rw [hw10]
                  exact ((below_drew (HW5.out.alloc HW5.out.size _)).trans (HG9.out.below (Nat.le_trans HSZ5.out (below_drew (below_al (Below.refl w5.heap.size w5) _)).size) fun k e0 => (HRW.out.lt k e0).1)).setCell (HF5.out.arr.lt go rfl).1 _
                clear hw10 HRO9 HG9 HE5 HF5 HRW HUM HUF HK5 HV5 HFR k9 f9 z0 y0 x0 x1 x2 x3 HW5
                have HSN : Hid (sizeE (lastF (cutTo t l (j + 1))) = z2 + (e.key.length + e.value.length + 32)) := by
                  show _ = _
                  rw [HCT.out, lastF_set (by rw [HM.out]; omega), sizeE_snoc, HZ2.out]
                have HFE : Hid (Fl (fun _ => True) w.heap.size w10 (.slice (some ⟨go, 0, none⟩) (m + 1) c2) (us2.set m (.slice a9 (cur.length + 1) c9)) (cutTo t l (j + 1))) := by
                  rw [HCT.out, HM.out, Nat.add_sub_cancel]
                  exact HF10.out.mono fun _ _ _ => trivial
                clear HF10
                have c0 : w10.cell? ⟨xb, 0, none⟩ = some (.slice a1 e.key.length n1) := HE10.out.cell rfl
                have c3 : w10.cell? ⟨xb, 3, none⟩ = some (.slice a2 e.value.length n2) := HE10.out.cell rfl
                have hz2 := HLS.out.2
                have hle := HLE.out
                generalize e.key.length = kl at *
                generalize e.value.length = vl at *
                have s1 : IntKind.i64.wrap ((kl : Int) + (vl : Int)) = (kl : Int) + (vl : Int) := wrap_small (by omega) (by omega)
                have s2 : IntKind.i64.wrap ((kl : Int) + (vl : Int) + 32) = (kl : Int) + (vl : Int) + 32 := wrap_small (by omega) (by omega)
                have s3 : IntKind.i64.wrap ((z2 : Int) + ((kl : Int) + (vl : Int) + 32)) = (z2 : Int) + ((kl : Int) + (vl : Int) + 32) := wrap_small (by omega) (by omega)
                go_wp2_with fail
                clear s1 s2 s3 c0 c3
                go_roundw
                · exact ⟨j + 1, _, by go_num, by omega, by rw [HSN.out]; exact int_eq (by push_cast; omega), HFE.out, HB10.out⟩
                · simp only [intOf]; omega
      · have t1 : ¬ (j : Int) < (n : Int) := by omega
        have hjn : j = n := by omega
        have HP : Hid (CutPost t l w (.returned (.tuple #[.slice oo fs.length oc, .int .i64 0])) wr) := by
          refine ⟨fun _ => ⟨oo, oc, ?_, ?_⟩, fun h => absurd ⟨HRB.out, HT.out.1, HT.out.2⟩ h, HB.out⟩
          · rw [HN.out, ← hjn, HFS.out]
          · rw [HN.out, ← hjn, HFS.out]
            exact HFL.out.rows
        clear HFL
        generalize fs.length = q at *
        go_wp2_with fail
        go_ret2
        exact HP.out
end Go.Proofs.Ytmpapipobjoboaa
