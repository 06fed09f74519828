/- Chapter 19's document: Offer. -/
import Derived.Test.YtiofhmlmimbngaaRef17
import Derived.Test.YtiofhmlmimbngaaAppQ2
namespace Go.Proofs.Ytiofhmlmimbngaa
open Go.RowKit

/-- The document's Check tells what Sp.check tells. -/
def RCheck : Prop := ∀ (F : Nat → Prop) (s : Sp.T) (vt : Value) (w : World), Rw tagK F w vt s.tags →
    Calls Try.prog 40 #[.agg (spanCells s vt).toArray] w fun e w' => e = .returned (.int .i64 (Sp.check s : Int)) ∧ Below w.heap.size w w'

theorem RIntk.push {lo hi hi' b hb : Nat} {qb qb' : Option Nat} {q : Iq} {w wX : World} {qv' : Value} {l : List Sp.T} (h : RIntk lo hi w b hb qb q) (hf : q.queue.length ≠ q.n) (hl : l.length ≤ 1000000) (hh : hi ≤ hi') (hz : hi' ≤ wX.heap.size)
    (hqv : QV lo hi' wX b hb qb' qv' (q.queue ++ [l])) (hb' : Blk wX b #[.bool true, .int .i64 (q.n : Int), .int .i64 (q.m : Int), qv', .slice (some ⟨hb, 0, none⟩) q.m q.m] 71)
    (hsame : ∀ k, k < hi → k ≠ b → qb ≠ some k → wX.heap[k]? = w.heap[k]?) (hq' : qb' = qb ∨ ∃ g, qb' = some g ∧ hi ≤ g ∧ g < hi') :
    RIntk lo hi' wX b hb qb' { q with next := q.next + 1, queue := q.queue ++ [l] } where
  hi_le := hz
  l1 := h.l1
  l3 := h.l3
  u1 := Nat.lt_of_lt_of_le h.u1 hh
  u3 := Nat.lt_of_lt_of_le h.u3 hh
  d2 := h.d2
  blk := ⟨qv', hb', hqv⟩
  held := by
    obtain ⟨hc, g1, g2⟩ := h.held
    refine ⟨hc, g1.same (hsame hb h.u3 (fun e => h.d2 e.symm) (fun e => (h.qlo hb e).2.2.2 rfl)), (g2.keep fun k _ hF => hsame k hF.2.1 hF.2.2.1 hF.2.2.2.2).mono fun k _ hF => ⟨hF.1, Nat.lt_of_lt_of_le hF.2.1 hh, hF.2.2.1, hF.2.2.2.1, ?_⟩⟩
    rcases hq' with e | ⟨g, e, hg, _⟩
    · rw [e]; exact hF.2.2.2.2
    · rw [e]; intro e2; injection e2 with e2; have := hF.2.1; omega
  qlo := fun g hg => by
    rcases hq' with e | ⟨g', e, h1, h2⟩
    · rw [e] at hg
      obtain ⟨g1, g2, g3⟩ := h.qlo g hg
      exact ⟨g1, Nat.lt_of_lt_of_le g2 hh, g3⟩
    · rw [e] at hg
      injection hg with hg
      subst hg
      have := h.l1
      have := h.u1
      have := h.u3
      exact ⟨by omega, h2, by omega, by omega⟩
  n0 := h.n0
  n1 := h.n1
  m1 := h.m1
  m2 := h.m2
  fit := by have := h.fit; simp; omega
  sm := fun x hx => by
    rcases List.mem_append.1 hx with h1 | h1
    · exact h.sm x h1
    · rw [List.mem_singleton.1 h1]; exact hl
  sh := h.sh

set_option maxRecDepth 100000 in
set_option maxHeartbeats 2000000 in
theorem roffer_of (hrc : RCheck) (lo hi b hb : Nat) (qb : Option Nat) (q : Iq) (F : Nat → Prop) (v : Value) (l : List Sp.T) (w : World) (hv : Rw spanK F w v l) (hl : l.length ≤ 10000) (h : RIntk lo hi w b hb qb q) :
    Calls Try.prog 24 #[.pointer (some ⟨b, 0, none⟩), v] w fun e w' => ∃ qb', e = .returned (.int .i64 ((q.offer l).1 : Int)) ∧ RIntk lo w'.heap.size w' b hb qb' (q.offer l).2 ∧ Wrote (fun k => k = b ∨ qb = some k) w w' ∧ (qb' = qb ∨ ∃ g, qb' = some g ∧ w.heap.size ≤ g) := by
  obtain ⟨a, c, rfl⟩ := hv.isSlice
  have HV := Lib.hid hv
  have HI := Lib.hid h
  clear hv h
  go_enter Try.func24, Try.ntmps24
  go_wp2_with fail
  refine Calls.mono (rnone_false HI.out) ?_
  rintro e w1 ⟨rfl, rfl⟩
  go_wp2_with fail
  go_loopw [5, 6] (fun o i wr => ∃ j : Nat, i = .int .i64 j ∧ j ≤ l.length ∧ Hid (ROwned spanK w1.heap.size 35 wr o (l.take j)) ∧ Hid (Sp.bad l = Sp.bad (l.drop j)) ∧ Hid (Below w1.heap.size w1 wr)) (fun _ i _ => l.length - (intOf i).toNat)
  case atStart => exact ⟨0, rfl, by omega, ROwned.nil _ _ _ _, rfl, Below.refl _ _⟩
  case round =>
    obtain ⟨j, rfl, hj, HO, HE, HW⟩ := hrel
    by_cases hlt : j < l.length
    · obtain ⟨sb, off, cap, ea, _, hsb, hc⟩ := spans_at (HV.out.below HW.out) (by omega)
      injection ea with e1 e2 e3
      subst e1 e3
      clear e2
      obtain ⟨vt, ht, hcs⟩ := hc j hlt
      obtain ⟨ta, tc, rfl⟩ := ht.isSlice
      have HT := Lib.hid ht
      have HBd := Lib.hid (Sp.bad_drop l j hlt)
      have HTk : Hid (l.take (j + 1) = l.take j ++ [l[j]]) := List.take_succ_eq_append_getElem hlt
      clear hc ht
      generalize l[j] = s at *
      have k0 := hcs 0 _ rfl
      have k1 := hcs 1 _ rfl
      have k2 := hcs 2 _ rfl
      have k3 := hcs 3 _ rfl
      have k4 := hcs 4 _ rfl
      have k5 := hcs 5 _ rfl
      have k6 := hcs 6 _ rfl
      have k7 := hcs 7 _ rfl
      have k8 := hcs 8 _ rfl
      have k9 := hcs 9 _ rfl
      have k10 := hcs 10 _ rfl
      rw [Nat.add_zero] at k0
      have HCS := Lib.hid hcs
      clear hcs
      have hjl : (j : Int) < (l.length : Int) := by omega
      go_wp2_with fail
      refine Calls.mono (hrc F s (.slice ta s.tags.length tc) _ HT.out) ?_
      rintro e w3 ⟨rfl, hb3⟩
      have HB3 : Hid (Below wr.heap.size wr w3) := hb3
      clear hb3
      by_cases hz : Sp.check s = 0
      · have HN : Hid (Sp.bad l = Sp.bad (l.drop (j + 1))) := by
          refine HE.out.trans (HBd.out.trans ?_)
          rw [if_neg (by omega)]
        rw [hz]
        replace k0 := (World.cell?_of_block (HB3.out.block sb hsb)).trans k0
        replace k1 := (World.cell?_of_block (HB3.out.block sb hsb)).trans k1
        replace k2 := (World.cell?_of_block (HB3.out.block sb hsb)).trans k2
        replace k3 := (World.cell?_of_block (HB3.out.block sb hsb)).trans k3
        replace k4 := (World.cell?_of_block (HB3.out.block sb hsb)).trans k4
        replace k5 := (World.cell?_of_block (HB3.out.block sb hsb)).trans k5
        replace k6 := (World.cell?_of_block (HB3.out.block sb hsb)).trans k6
        replace k7 := (World.cell?_of_block (HB3.out.block sb hsb)).trans k7
        replace k8 := (World.cell?_of_block (HB3.out.block sb hsb)).trans k8
        replace k9 := (World.cell?_of_block (HB3.out.block sb hsb)).trans k9
        replace k10 := (World.cell?_of_block (HB3.out.block sb hsb)).trans k10
        go_wp2_with fail
        refine Calls.mono (rcopy_any F s (.slice ta s.tags.length tc) w3 (HT.out.below HB3.out) (by have := Sp.tags_few s hz; omega)) ?_
        rintro e w4 ⟨vt', rfl, hr4, hb4⟩
        obtain ⟨ua, uc, rfl⟩ := hr4.isSlice
        have HB4 : Hid (Below wr.heap.size wr w4) := HB3.out.trans (hb4.mono HB3.out.size)
        have HR4 : Hid (Rw tagK (fun k => w3.heap.size ≤ k) w4 (.slice ua s.tags.length uc) s.tags) := hr4
        have HS3 : Hid (wr.heap.size ≤ w3.heap.size) := HB3.out.size
        clear hr4 hb4 HB3 k0 k1 k2 k3 k4 k5 k6 k7 k8 k9 k10 HCS
        unfold spanCells
        go_wp2_with (with_reducible refine pause_append ?_)
        refine list_gen fun W5 hW5 => ?_
        have HX5 : Hid (Below w4.heap.size w4 W5) := by rw [hW5]; exact (Below.refl _ _).alloc (Nat.le_refl _) _
        have HK5 : Hid (Blk W5 w4.heap.size (spanCells s (.slice ua s.tags.length uc)).toArray 35) := by rw [hW5]; exact Blk.at_new rfl rfl
        clear hW5
        have HB5 : Hid (Below wr.heap.size wr W5) := HB4.out.trans (HX5.out.mono HB4.out.size)
        have HW5 : Hid (Below w1.heap.size w1 W5) := HW.out.trans (HB5.out.mono HW.out.size)
        have HR5 : Hid (Rw tagK (fun k => w1.heap.size ≤ k ∧ u5.ownBlock ≠ some k) W5 (.slice ua s.tags.length uc) s.tags) :=
          (HR4.out.below HX5.out).mono fun k _ hk => ⟨Nat.le_trans HW.out.size (Nat.le_trans HS3.out hk), fun e => by
            have := (HO.out.lt k e).2
            have := HS3.out
            omega⟩
        have HO5 : Hid (ROwned spanK w1.heap.size 35 W5 u5 (l.take j)) := HO.out.below HB5.out
        refine Pause.go (wpList_append_el (K := spanK) 37 35 _ 120 Try.underlying37 info_span rfl w1.heap.size u5 (l.take j) w4.heap.size 35 _ s rfl _ _ rfl rfl rfl HO5.out HK5.out ⟨_, rfl, HR5.out⟩ (by simp; omega) (by decide) HW5.out.size ?_)
        intro v' W6 ho6 hg6
        rw [← HTk.out] at ho6
        have HO6 := Lib.hid ho6
        have HW6 : Hid (Below w1.heap.size w1 W6) := HW5.out.trans (hg6.below HW5.out.size fun k e => (HO5.out.lt k e).1)
        clear ho6 hg6
        go_wp2_with fail
        go_roundw
        · exact ⟨j + 1, by go_num, by omega, HO6, HN.out, HW6⟩
        · simp only [intOf]; omega
      · have HQ : Hid (q.offer l = (Sp.check s, q)) := by
          have e1 : Sp.bad l = Sp.check s := HE.out.trans (HBd.out.trans (if_pos hz))
          show _ = _
          unfold Iq.offer
          rw [e1, if_pos hz]
        have hz' : ((Sp.check s : Int) != 0) = true := by simp; omega
        have HW3 : Hid (Below w1.heap.size w1 w3) := HW.out.trans (HB3.out.mono HW.out.size)
        generalize Sp.check s = er at *
        go_wp2_with fail
        go_ret
        refine ⟨qb, (congrArg (fun x : Nat × Iq => Ending.returned (.int .i64 (x.1 : Int))) HQ.out).symm, ?_, Wrote.of_below HW3.out, .inl rfl⟩
        rw [HQ.out]
        exact (HI.out.next_ HW3.out).up (Nat.le_trans HI.out.hi_le HW3.out.size) (Nat.le_refl _)
    · have HE0 : Hid (Sp.bad l = 0) := by
        have h1 := HE.out
        rw [List.drop_of_length_le (by omega)] at h1
        exact h1
      have hje : l.take j = l := List.take_of_length_le (by omega)
      rw [hje] at HO
      have hje2 : j = l.length := by omega
      subst hje2
      clear hje hlt hj HE
      obtain ⟨oa, oc, rfl⟩ := HO.out.isSlice
      have HI2 : Hid (RIntk lo wr.heap.size wr b hb qb q) := (HI.out.next_ HW.out).up (Nat.le_trans HI.out.hi_le HW.out.size) (Nat.le_refl _)
      by_cases h0 : l.length = 0
      · have HQ : Hid (q.offer l = (0, q)) := by
          show _ = _
          unfold Iq.offer
          rw [HE0.out, if_neg (by simp), if_pos h0]
        rw [h0]
        go_wp2_with fail
        go_ret
        refine ⟨qb, (congrArg (fun x : Nat × Iq => Ending.returned (.int .i64 (x.1 : Int))) HQ.out).symm, ?_, Wrote.of_below HW.out, .inl rfl⟩
        rw [HQ.out]
        exact HI2.out
      · have h0' : ((l.length : Int) == 0) = false := beq_eq_false_iff_ne.2 (by omega)
        obtain ⟨qv, hbk, hqv⟩ := HI2.out.blk
        obtain ⟨qa, qc0, rfl⟩ := hqv.isSlice
        have k1 : wr.cell? ⟨b, 1, none⟩ = some (.int .i64 (q.n : Int)) := hbk.cell rfl
        have k3 : wr.cell? ⟨b, 3, none⟩ = some (.slice qa q.queue.length qc0) := hbk.cell rfl
        have HBk := Lib.hid hbk
        have HQV := Lib.hid hqv
        clear hbk hqv
        by_cases hf : q.queue.length = q.n
        · have hfull : (q.n : Int) ≤ (q.queue.length : Int) := by omega
          have HQ : Hid (q.offer l = (13, q)) := by
            show _ = _
            unfold Iq.offer
            rw [HE0.out, if_neg (by simp), if_neg h0, if_pos hf]
          go_wp2_with fail
          go_quiet (fail)
          go_wp2_with fail
          all_goals first
            | (exfalso; omega)
            | skip
          go_ret
          refine ⟨qb, (congrArg (fun x : Nat × Iq => Ending.returned (.int .i64 (x.1 : Int))) HQ.out).symm, ?_, (Wrote.of_below HW.out).drewN _, .inl rfl⟩
          rw [HQ.out]
          exact HI2.out.below ⟨rfl, rfl, rfl, Nat.le_refl _, fun _ _ => rfl⟩
        · have hfull : ¬ q.n ≤ q.queue.length := by have := HI.out.fit; omega
          have HQ : Hid (q.offer l = (0, { q with next := q.next + 1, queue := q.queue ++ [l] })) := by
            show _ = _
            unfold Iq.offer
            rw [HE0.out, if_neg (by simp), if_neg h0, if_neg hf]
          go_wp2_with fail
          go_quiet (fail)
          go_wp2_with (with_reducible refine pause_append ?_)
          refine list_gen fun W2 hW2 => ?_
          have HX2 : Hid (Below wr.heap.size wr W2) := by rw [hW2]; exact (below_dn (Below.refl _ _) _).alloc (Nat.le_refl _) _
          have HK2 : Hid (Blk W2 wr.heap.size #[.slice oa l.length oc] 37) := by rw [hW2]; exact Blk.at_new rfl rfl
          clear hW2
          have HQ2 : Hid (QV lo W2.heap.size W2 b hb qb (.slice qa q.queue.length qc0) q.queue) := HQV.out.keep (fun k hk _ _ => HX2.out.block k hk) HX2.out.size
          have HO2 : Hid (Rw spanK (fr lo W2.heap.size b hb qb) W2 (.slice oa l.length oc) l) := (HO.out.rows.below HX2.out).mono fun k hk hF => by
            have g1 := HI.out.hi_le
            have g2 := HI.out.l1
            have g3 := HI.out.u1
            have g5 := HI.out.u3
            refine ⟨by omega, hk, by omega, by omega, fun e => ?_⟩
            have := (HI.out.qlo k e).2.1
            omega
          have HBk2 : Hid (Blk W2 b #[.bool true, .int .i64 (q.n : Int), .int .i64 (q.m : Int), .slice qa q.queue.length qc0, .slice (some ⟨hb, 0, none⟩) q.m q.m] 71) := HBk.out.below HX2.out HBk.out.lt
          have hbw : b < W2.heap.size := HBk2.out.lt
          have hhw : hb < W2.heap.size := by have := HI2.out.u3; have := HX2.out.size; omega
          have hlo : lo ≤ W2.heap.size := by have := HI2.out.l1; omega
          have hqw : ∀ g, qb = some g → g < W2.heap.size := fun g e => by have := (HI2.out.qlo g e).2.1; have := HX2.out.size; omega
          have hqn : q.queue.length ≤ 1000 := by have := HI.out.fit; have := HI.out.n1; omega
          refine Pause.go (wpList_append_q (lo := lo) (b := b) (hb := hb) (qb := qb) (queue := q.queue) (l := l) wr.heap.size 37 (.slice oa l.length oc) rfl _ _ rfl rfl rfl hlo hbw hhw hqw HQ2.out HK2.out HO2.out hqn ?_)
          intro v' W3 qb' hq3 hw3 hq'
          have hbq : ¬ qb = some b := fun e => (HI2.out.qlo b e).2.2.1 rfl
          have HBk3 : Hid (Blk W3 b #[.bool true, .int .i64 (q.n : Int), .int .i64 (q.m : Int), .slice qa q.queue.length qc0, .slice (some ⟨hb, 0, none⟩) q.m q.m] 71) := HBk2.out.same (hw3.block b hbw hbq)
          obtain ⟨va, vc, rfl⟩ := hq3.isSlice
          rw [show (q.queue ++ [l]).length = q.queue.length + 1 by simp] at hq3
          have HQ3 : Hid (QV lo W3.heap.size W3 b hb qb' (.slice va (q.queue.length + 1) vc) (q.queue ++ [l])) := hq3
          have HW3 := Lib.hid hw3
          have HQ' := Lib.hid hq'
          have m3 : W3.cell? ⟨b, 3, none⟩ = some (.slice qa q.queue.length qc0) := HBk3.out.cell rfl
          have f3 := HBk3.out.free 3
          clear hq3 hw3 hq' k1 k3
          go_wp2_with fail
          go_ret
          refine ⟨qb', (congrArg (fun x : Nat × Iq => Ending.returned (.int .i64 (x.1 : Int))) HQ.out).symm, ?_, ((((Wrote.of_below HW.out).trans (Wrote.of_below HX2.out)).trans (HW3.out.wide fun k e => .inr e)).setCell _ _ (.inl rfl)), ?_⟩
          · rw [HQ.out]
            have hsz : ∀ x, (W3.setCell ⟨b, 3, none⟩ x).heap.size = W3.heap.size := fun x => by simp
            have hX := HX2.out.size
            have hY := HW3.out.size
            refine HI2.out.push (qb' := qb') (qv' := .slice va (q.queue.length + 1) vc) hf (by omega) (by rw [hsz]; omega) (Nat.le_refl _) ?_ ?_ ?_ ?_
            · rw [hsz]
              exact HQ3.out.keep (fun k _ h1 _ => heap_setCell_other _ _ _ _ h1) (Nat.le_refl _)
            · exact HBk3.out.set 3 _
            · intro k hk h1 h2
              rw [heap_setCell_other _ _ _ _ h1, HW3.out.block k (by omega) h2, HX2.out.block k hk]
            · rcases HQ'.out with e | ⟨g, e, g1, g2⟩
              · exact .inl e
              · exact .inr ⟨g, e, by omega, by rw [hsz]; exact g2⟩
          · rcases HQ'.out with e | ⟨g, e, g1, _⟩
            · exact .inl e
            · have := HW.out.size
              have := HX2.out.size
              exact .inr ⟨g, e, by omega⟩
end Go.Proofs.Ytiofhmlmimbngaa
