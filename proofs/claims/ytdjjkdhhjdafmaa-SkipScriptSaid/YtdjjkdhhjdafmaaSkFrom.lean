/- skip: From. -/
import Derived.Test.YtdjjkdhhjdafmaaSkAll
import Derived.Test.YtdjjkdhhjdafmaaSkS
namespace Go.Proofs.Ytdjjkdhhjdafmaa
open Go.RowKit

attribute [local go_sem] Oper.semAt_some

/-- What From tells. -/
def skFromOf (key : List UInt8) (n : Int) (ts : List Tw) : List Ent := ((behind (plc key 18446744073709551615) ts).map Tw.e).take n.toNat

set_option maxRecDepth 100000 in
set_option maxHeartbeats 4000000 in
theorem skFrom_any (lo : Lo) (b : Nat) (hd : Tw) (ts : List Tw) (G : Nat → Prop) (key : List UInt8) (n : Int) (vk : Value) (w : World) (h : Skp lo w b hd ts) (hk : Bytes G w vk key) :
    Calls Try.prog 33 #[.pointer (some ⟨b, 0, none⟩), vk, .int .i64 n] w fun e w' => ∃ v, e = .returned v ∧ Rw entK (fun k => w.heap.size ≤ k) w' v (skFromOf key n ts) ∧ Below w.heap.size w w' := by
  obtain ⟨ka, kc, rfl⟩ := hk.isSlice
  have HI := Lib.hid h
  have HK0 := Lib.hid hk
  clear h hk
  obtain ⟨r, hr⟩ : ∃ r, skFromOf key n ts = r := ⟨_, rfl⟩
  rw [hr]
  unfold skFromOf at hr
  have HR := Lib.hid hr
  clear hr
  refine callsIn_wide.1 (callsIn_of_wp_marks (n := 9) Try.func33 rfl trivial ?_ rfl)
  simp only [Try.ntmps33, List.size_toArray, List.length_cons, List.length_nil, Nat.reduceAdd, Nat.reduceSub, Array.replicate_succ, Array.replicate_zero, List.push_toArray, List.append_toArray, List.nil_append, List.cons_append]
  gi_wp2
  refine ⟨trivial, CallsIn.mono (callsIn_wide.2 (skNone_false (HI.out.below ((Below.refl _ _).alloc (Nat.le_refl _) _)))) ?_⟩
  rintro _ w0 ⟨rfl, hw0⟩
  have HB0 : Hid (Below w.heap.size w w0) := by rw [hw0]; exact (Below.refl _ _).alloc (Nat.le_refl _) _
  have HN0 : Hid (∃ T, Blk w0 w.heap.size #[.int .i64 n] T) := by rw [hw0]; exact ⟨_, Blk.at_new rfl rfl⟩
  clear hw0
  obtain ⟨TN, HN0⟩ := HN0.out
  have HN0 := Lib.hid HN0
  have HI0 := Lib.hid (HI.out.below HB0.out)
  have HKK := Lib.hid (HK0.out.below HB0.out)
  clear HI HK0
  have kn : w0.cell? ⟨w.heap.size, 0, none⟩ = some (.int .i64 n) := HN0.out.cell rfl
  by_cases hn0 : n ≤ 0
  · have HF : Hid (r = []) := by show _ = _; rw [← HR.out, show n.toNat = 0 by omega]; rfl
    gi_wp2
    refine ⟨_, results_tmp rfl _ _ _, _, rfl, ?_, HB0.out⟩
    rw [HF.out]
    exact Rw.nil _ _ _
  · obtain ⟨N, rfl⟩ : ∃ N : Nat, n = (N : Int) := ⟨n.toNat, by omega⟩
    have hN : 0 < N := by omega
    have HR2 : Hid (((behind (plc key 18446744073709551615) ts).map Tw.e).take N = r) := HR.out
    clear HR
    have hn1 : ¬ (N : Int) ≤ 0 := hn0
    gi_wp2
    refine ⟨trivial, CallsIn.mono (callsIn_wide.2 (at_any lo b hd ts _ key 18446744073709551615 _ _ (HI0.out.below ((Below.refl _ _).alloc (Nat.le_refl _) _)) (HKK.out.below ((Below.refl _ _).alloc (Nat.le_refl _) _)))) ?_⟩
    rintro _ w2 ⟨rfl, hb2⟩
    have HO2 : Hid (∃ T, Blk w2 w0.heap.size #[.slice none 0 0] T) := ⟨_, Blk.below (Blk.at_new rfl rfl) hb2 (by simp)⟩
    have HB2 : Hid (Below w0.heap.size w0 w2) := ((Below.refl _ _).alloc (Nat.le_refl _) _).trans (hb2.mono (by simp))
    clear hb2 kn hn0 hn1
    obtain ⟨q, hq⟩ := nxt_ptr 0 (behind (plc key 18446744073709551615) ts)
    have HQ := Lib.hid hq
    rw [hq]
    clear hq
    gi_wp2
    refine ⟨trivial, CallsIn.mono (callsIn_wide.2 (from_any _ _)) ?_⟩
    rintro _ w3 ⟨rfl, T2, hw3⟩
    have HX : Hid (Blk w3 w2.heap.size #[nxt 0 (behind (plc key 18446744073709551615) ts)] T2) := by rw [hw3]; exact Blk.at_new rfl (by rw [HQ.out])
    have HO : Hid (∃ T, Blk w3 w0.heap.size #[.slice none 0 0] T) := by obtain ⟨T, h⟩ := HO2.out; rw [hw3]; exact ⟨T, h.alloc _⟩
    have HB : Hid (Below w0.heap.size w0 w3) := HB2.out.trans (by rw [hw3]; exact (Below.refl _ _).alloc HB2.out.size _)
    have hsz : w3.heap.size = w2.heap.size + 1 ∧ w0.heap.size < w2.heap.size := ⟨by rw [hw3]; simp, by obtain ⟨T, h⟩ := HO2.out; exact h.lt⟩
    have HSZ := Lib.hid hsz
    clear hw3 HQ HO2 hsz
    gi_wp2
    obtain ⟨TO, HO⟩ := HO.out
    have HO := Lib.hid HO
    obtain ⟨l2, hl2⟩ : ∃ l2, behind (plc key 18446744073709551615) ts = l2 := ⟨_, rfl⟩
    have HTS : Hid (ts = ahead (plc key 18446744073709551615) ts ++ l2) := by show _ = _; rw [← hl2, ahead_behind]
    rw [hl2] at HR2 HX
    have HL2 : Hid (l2.length ≤ ts.length) := by show _ ≤ _; have h := congrArg List.length HTS.out; rw [List.length_append] at h; omega
    clear hl2
    have HK : ∀ k, Kept3 w2.heap.size w3.heap.size k → w0.heap.size ≤ k ∧ k < w3.heap.size + 2 ∧ k ≠ w0.heap.size := fun k hk => by
      have := HSZ.out
      rcases hk with rfl | rfl | rfl <;> omega
    have HK := Lib.hid HK
    refine wpIn_rangeX rfl (by omega) (gf := 54) (lb := #[.pointer (some ⟨w2.heap.size, 0, none⟩)]) rfl trivial (enters_of Try.func54 (by kernel_rfl) rfl)
      w2.heap.size w0.heap.size (by have := HSZ.out; omega) HB.out.size (l2.map Tw.e) handed (from1_iter lo b hd ts (ahead (plc key 18446744073709551615) ts) l2 (9 - 1) w2.heap.size T2 w0 w3 HI0.out HTS.out HB.out (by have := HSZ.out; omega) HX.out)
      (fun A B x vs hv => by obtain ⟨_, _, rfl, _⟩ := hv; rfl) (fun pre W => Coll w0 w0.heap.size (w3.heap.size + 2) pre W ∧ pre.length < N) (fun c pre W => c = .exit 0 ∧ Coll w0 w0.heap.size (w3.heap.size + 2) pre W ∧ pre.length = N)
      (fun pre A B h hb => ⟨Coll.stays HK.out pre A B h.1 hb, h.2⟩) (fun c pre A B h hb => ⟨h.1, Coll.stays HK.out pre A B h.2.1 hb, h.2.2⟩) ?start ?round ?done ?stop
    case start => exact ⟨⟨HB.out, _, _, HO.out, ROwnF.nil _ _ _ _ _⟩, hN⟩
    case round =>
      intro pre x rest vs Wp W hxs hip hbp hvs hlt hi
      obtain ⟨vk, vv, rfl, hk, hv⟩ := hvs
      clear hi
      obtain ⟨⟨hbw, v0, T0, ho, hr⟩, hpl⟩ := hip
      have HPL := Lib.hid hpl
      have hpt : pre.length < l2.length := by have := congrArg List.length hxs; simp at this; omega
      have hM : w3.heap.size + 2 ≤ Wp.heap.size := by have := HSZ.out; omega
      obtain ⟨ka, kc, rfl⟩ := hk.isSlice
      obtain ⟨va, vc, rfl⟩ := hv.isSlice
      obtain ⟨oa, oc, rfl⟩ := hr.isSlice
      have hno : ∀ k, Wp.heap.size ≤ k → (Value.slice oa pre.length oc).ownBlock ≠ some k := fun k hk e => by have := (hr.lt k e).2; omega
      have HD := Lib.hid (show Hold w0 w0.heap.size (w3.heap.size + 2) pre x (.slice ka x.key.length kc) (.slice va x.value.length vc) (.slice oa pre.length oc) T0 W from
        ⟨hbw.trans (hbp.mono hbw.size), ho.below hbp ho.lt, hr.below hbp, hk.mono fun k _ h => ⟨by omega, hno k h⟩, hv.mono fun k _ h => ⟨by omega, hno k h⟩, Nat.le_trans hM hbp.size, ⟨Nat.le_refl _, by have := HSZ.out; omega⟩⟩)
      have HPT := Lib.hid hpt
      have HXS := Lib.hid hxs
      have HFEW : Hid (l2.length ≤ 1000000) := Nat.le_trans HL2.out HI0.out.few
      clear hbw ho hr hk hv hno hpt hxs hpl hlt hM hbp
      gi_wp2_with (with_reducible refine pauseIn_store ?_)
      refine Pause.go (wpListIn_op rfl (by intro c e; cases e) fun K hK => wp_store_agg _ _ _ rfl W.heap.size 0 rfl _ rfl zeroE _ (Blk.at_new rfl rfl) (by kernel_rfl) (by simp [zeroE, entCells]) HD.out.one (hK _ _ ?_))
      rw [over_all zeroE _ (by simp [zeroE, entCells])]
      clear hK
      refine listIn_gen fun W3 hW3 => ?_
      have HZ3 : Hid (Blk W3 W.heap.size (entCells x (.slice ka x.key.length kc) (.slice va x.value.length vc)).toArray 34) := by rw [hW3]; exact (Blk.at_new rfl rfl).row _
      have HB3 : Hid (Below W.heap.size W W3) := by rw [hW3]; exact below_setRow ((Below.refl _ _).alloc (Nat.le_refl _) _) (Nat.le_refl _) _
      clear hW3
      have HD3 := Lib.hid (HD.out.below HB3.out)
      gi_wp2
      refine ⟨fun k hk => HB3.out.block k (by have := HK.out k hk; have := HD.out.m; omega), HB3.out.mono HD.out.b.size, fun W4 hb4 => ?_⟩
      have HD4 := Lib.hid (HD3.out.keep (fun k e => HK.out k (.inr (.inr e))) hb4)
      have HZ4 : Hid (Blk W4 W.heap.size (entCells x (.slice ka x.key.length kc) (.slice va x.value.length vc)).toArray 34) := HZ3.out.same (hb4.block _ HZ3.out.lt fun e => by have := (HK.out _ (.inr (.inr e))).2.1; have := HD.out.m; omega)
      have c0 : W4.cell? ⟨W.heap.size, 0, none⟩ = some (.slice ka x.key.length kc) := HZ4.out.cell rfl
      have c1 : W4.cell? ⟨W.heap.size, 1, none⟩ = some (.int .u64 x.seq) := HZ4.out.cell rfl
      have c2 : W4.cell? ⟨W.heap.size, 2, none⟩ = some (.int .i64 x.kind) := HZ4.out.cell rfl
      have c3 : W4.cell? ⟨W.heap.size, 3, none⟩ = some (.slice va x.value.length vc) := HZ4.out.cell rfl
      have co : W4.cell? ⟨w0.heap.size, 0, none⟩ = some (.slice oa pre.length oc) := HD4.out.o.cell rfl
      clear hb4 HD3 HZ3 HB3
      gi_wp2_with (with_reducible refine pauseIn_append ?_)
      refine listIn_gen fun W5 hW5 => ?_
      have HB5 : Hid (Below W4.heap.size W4 W5) := by rw [hW5]; exact (Below.refl _ _).alloc (Nat.le_refl _) _
      have HS5 : Hid (Blk W5 W4.heap.size (entCells x (.slice ka x.key.length kc) (.slice va x.value.length vc)).toArray 34) := by rw [hW5]; exact Blk.at_new rfl rfl
      clear hW5 c0 c1 c2 c3 co
      have HD5 := Lib.hid (HD4.out.below HB5.out)
      refine Pause.go (wpListIn_op rfl (by intro c e; cases e) fun K hK => wp_append_elF (K := entK) 22 34 _ 64 Try.underlying22 info_entry rfl (fun k => w3.heap.size + 2 ≤ k) (w3.heap.size + 2) (.slice oa pre.length oc) pre W4.heap.size 34 _ x _ _ rfl rfl rfl HD5.out.r HS5.out ⟨_, _, rfl, HD5.out.hk, HD5.out.hv⟩ (by have := HPT.out; have := HFEW.out; omega) (by decide) HD5.out.m fun v' w' ho hg => hK _ _ ?_)
      clear hK
      obtain ⟨s1, s2, s3⟩ := HD5.out.step ho hg
      obtain ⟨na, nc, rfl⟩ := ho.isSlice
      have hO6 : Blk w' w0.heap.size #[.slice oa pre.length oc] T0 := HD5.out.o.same (hg.grown.block _ HD5.out.o.lt fun e => by have := (HD5.out.r.lt _ e.symm).1; have h9 := HSZ.out; omega)
      have co : w'.cell? ⟨w0.heap.size, 0, none⟩ = some (.slice oa pre.length oc) := hO6.cell rfl
      have fo : w'.frozen? ⟨w0.heap.size, 0, none⟩ = false := hO6.free 0
      rw [List.length_append, List.length_singleton] at s1 s2 s3
      have S1 := Lib.hid s1
      have S2 := Lib.hid s2
      have S3 := Lib.hid s3
      have kn : (w'.setCell ⟨w0.heap.size, 0, none⟩ (.slice na (pre.length + 1) nc)).cell? ⟨w.heap.size, 0, none⟩ = some (.int .i64 (N : Int)) := by
        refine (World.cell?_of_block (a := ⟨w.heap.size, 0, none⟩) (s1.1.block w.heap.size HN0.out.lt)).trans ?_
        exact HN0.out.cell rfl
      have kx : (w'.setCell ⟨w0.heap.size, 0, none⟩ (.slice na (pre.length + 1) nc)).cell? ⟨w0.heap.size, 0, none⟩ = some (.slice na (pre.length + 1) nc) := (hO6.set 0 _).cell (by simp)
      have hne : w.heap.size ≠ w0.heap.size := fun e => by have := HN0.out.lt; omega
      have kn1 : w'.cell? ⟨w.heap.size, 0, none⟩ = some (.int .i64 (N : Int)) := (World.cell?_of_block (a := ⟨w.heap.size, 0, none⟩) (heap_setCell_other _ _ _ _ hne)).symm.trans kn
      clear s1 s2 s3 ho hg hO6
      by_cases hlast : pre.length + 1 = N
      · have hbeq : (((pre.length : Int) + 1) == (N : Int)) = true := beq_iff_eq.2 (by omega)
        have HLAST := Lib.hid hlast
        clear hlast
        gi_wp2
        exact ⟨fun k hk => by
          have h1 := HK.out k hk
          exact (S2.out k h1.2.1 h1.2.2).trans (HB5.out.block k (by have := HD4.out.m; omega)), rfl, S1.out, by rw [List.length_append, List.length_singleton]; exact HLAST.out⟩
      · have hbeq : (((pre.length : Int) + 1) == (N : Int)) = false := beq_eq_false_iff_ne.2 (by omega)
        have HLAST : Hid (pre.length + 1 < N) := by have := HPL.out; show _ < _; omega
        clear hlast
        gi_wp2
        exact ⟨fun k hk => by
          have h1 := HK.out k hk
          exact (S2.out k h1.2.1 h1.2.2).trans (HB5.out.block k (by have := HD4.out.m; omega)), (HB5.out.mono HD4.out.b.size).trans S3.out, S1.out, by rw [List.length_append, List.length_singleton]; exact HLAST.out⟩
    case done =>
      intro W hi hK
      obtain ⟨⟨hb, v0, T0, ho, hr⟩, hlN⟩ := hi
      have HF : Hid (r = l2.map Tw.e) := by show _ = _; rw [← HR2.out, List.take_of_length_le (by omega)]
      obtain ⟨oa, oc, rfl⟩ := hr.isSlice
      have co : W.cell? ⟨w0.heap.size, 0, none⟩ = some (.slice oa (l2.map Tw.e).length oc) := ho.cell rfl
      have HBw := Lib.hid hb
      have HRw := Lib.hid hr
      have HKw := Lib.hid hK
      clear hb ho hr hK hlN
      gi_wp2
      refine ⟨by simp, .inl ⟨_, _, rfl, run_takeDeferred HKw.out, ?_⟩⟩
      refine ⟨_, results_tmp rfl _ _ _, _, rfl, ?_, ?_⟩
      · have hbt := But.putObj (D := fun k => k = w3.heap.size) W (k := w3.heap.size) (.deferred none) rfl
        have hr2 := HRw.out.keep (w' := W.putObj w3.heap.size (.deferred none)) fun k hk hF => hbt.block k hk fun e => by
          have := HSZ.out
          rcases hF with hF | hF
          · have := (HRw.out.lt k hF).1; omega
          · omega
        rw [List.length_map] at hr2
        rw [HF.out]
        have h0 := HB0.out.size
        have h3 := HB.out.size
        exact hr2.rows.mono fun k _ h => by
          rcases h with h | h
          · have := (hr2.lt k h).1; omega
          · omega
      · exact HB0.out.trans ((HBw.out.trans ((But.putObj (D := fun k => k = w3.heap.size) W (.deferred none) rfl).below (fun k e => by have := HB.out.size; omega) HBw.out.size)).mono HB0.out.size)
    case stop =>
      rintro c pre W hpre ⟨rfl, ⟨hb, v0, T0, ho, hr⟩, hlN⟩ hK
      have HF : Hid (r = pre) := by
        show _ = _
        rw [← HR2.out]
        obtain ⟨t, ht⟩ := hpre
        rw [← ht, ← hlN, List.take_left' rfl]
      obtain ⟨oa, oc, rfl⟩ := hr.isSlice
      have co : W.cell? ⟨w0.heap.size, 0, none⟩ = some (.slice oa pre.length oc) := ho.cell rfl
      have HBw := Lib.hid hb
      have HRw := Lib.hid hr
      have HKw := Lib.hid hK
      clear hb ho hr hK hlN hpre
      gi_wp2
      refine ⟨by simp, .inl ⟨_, _, rfl, run_takeDeferred HKw.out, ?_⟩⟩
      refine ⟨_, results_tmp rfl _ _ _, _, rfl, ?_, ?_⟩
      · have hbt := But.putObj (D := fun k => k = w3.heap.size) W (k := w3.heap.size) (.deferred none) rfl
        have hr2 := HRw.out.keep (w' := W.putObj w3.heap.size (.deferred none)) fun k hk hF => hbt.block k hk fun e => by
          have := HSZ.out
          rcases hF with hF | hF
          · have := (HRw.out.lt k hF).1; omega
          · omega
        rw [HF.out]
        have h0 := HB0.out.size
        have h3 := HB.out.size
        exact hr2.rows.mono fun k _ h => by
          rcases h with h | h
          · have := (hr2.lt k h).1; omega
          · omega
      · exact HB0.out.trans ((HBw.out.trans ((But.putObj (D := fun k => k = w3.heap.size) W (.deferred none) rfl).below (fun k e => by have := HB.out.size; omega) HBw.out.size)).mono HB0.out.size)
end Go.Proofs.Ytdjjkdhhjdafmaa
