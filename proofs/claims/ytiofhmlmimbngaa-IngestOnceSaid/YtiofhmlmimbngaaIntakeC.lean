/- The intake: Offer. -/
import Derived.Test.YtiofhmlmimbngaaIntakeB
namespace Go.Proofs.Ytiofhmlmimbngaa
open Go.RowKit

/-- Only blocks of S were written, and new blocks made. -/
structure Wrote (S : Nat → Prop) (w w' : World) : Prop where
  os : w'.os = w.os
  tape : w'.tape = w.tape
  output : w'.output = w.output
  size : w.heap.size ≤ w'.heap.size
  block : ∀ k, k < w.heap.size → ¬ S k → w'.heap[k]? = w.heap[k]?

section
variable {S : Nat → Prop} {w w1 w' : World}
theorem Wrote.of_below (h : Below w.heap.size w w') : Wrote S w w' := ⟨h.os, h.tape, h.output, h.size, fun k hk _ => h.block k hk⟩
theorem Wrote.trans (h : Wrote S w w1) (k : Wrote S w1 w') : Wrote S w w' := ⟨k.os.trans h.os, k.tape.trans h.tape, k.output.trans h.output, Nat.le_trans h.size k.size, fun i hi hn => (k.block i (Nat.lt_of_lt_of_le hi h.size) hn).trans (h.block i hi hn)⟩
theorem Wrote.setCell (h : Wrote S w w1) (a : Addr) (v : Value) (ha : S a.block) : Wrote S w (w1.setCell a v) :=
  ⟨h.os, h.tape, h.output, by simpa using h.size, fun k hk hn => (heap_setCell_other _ _ _ _ (fun e => hn (by rw [e]; exact ha))).trans (h.block k hk hn)⟩
theorem Wrote.drewN (h : Wrote S w w1) (n : Nat) : Wrote S w (w1.drewN n) := ⟨h.os, h.tape, h.output, h.size, h.block⟩
theorem Wrote.drew (h : Wrote S w w1) : Wrote S w w1.drew := h.drewN 1
theorem Wrote.below {B : Nat} (h : Wrote S w w') (hB : B ≤ w.heap.size) (hS : ∀ k, S k → B ≤ k) : Below B w w' :=
  ⟨h.os, h.tape, h.output, h.size, fun k hk => h.block k (Nat.lt_of_lt_of_le hk hB) (fun hs => by have := hS k hs; omega)⟩
theorem Wrote.wide {S' : Nat → Prop} (h : Wrote S w w') (hS : ∀ k, S k → S' k) : Wrote S' w w' := ⟨h.os, h.tape, h.output, h.size, fun k hk hn => h.block k hk (fun hs => hn (hS k hs))⟩
end

theorem spans_at {F : Nat → Prop} {w : World} {v : Value} {ss : List Sp.T} (h : Rw spanK F w v ss) (hne : 0 < ss.length) :
    ∃ b off cap, v = .slice (some ⟨b, off, none⟩) ss.length cap ∧ F b ∧ b < w.heap.size ∧ ∀ i (hi : i < ss.length), ∃ vt, Rw tagK F w vt ss[i].tags ∧ ∀ j u, (spanCells ss[i] vt)[j]? = some u → w.cell? ⟨b, off + i * 11 + j, none⟩ = some u := by
  obtain ⟨b, off, cap, e, hF, hb, _, _, hc⟩ := h.place hne
  refine ⟨b, off, cap, e, hF, hb, fun i hi => ?_⟩
  obtain ⟨es, ⟨vt, rfl, ht⟩, hes⟩ := hc i hi
  exact ⟨vt, ht, hes⟩

theorem wrap_small {x : Int} (h0 : -1000000000000 ≤ x) (h1 : x ≤ 1000000000000) : IntKind.i64.wrap x = x := by
  have : IntKind.i64.wrap x = RowKit.wrap64 x := by unfold RowKit.wrap64; simp [IntKind.wrap, IntKind.signed, IntKind.bits]; omega
  rw [this]; unfold RowKit.wrap64; omega

def Sp.bad : List Sp.T → Nat
  | [] => 0
  | s :: r => if Sp.check s ≠ 0 then Sp.check s else Sp.bad r

theorem Sp.bad_drop (l : List Sp.T) (j : Nat) (h : j < l.length) : Sp.bad (l.drop j) = if Sp.check l[j] ≠ 0 then Sp.check l[j] else Sp.bad (l.drop (j + 1)) := by
  rw [List.drop_eq_getElem_cons h, Sp.bad]

theorem Sp.tags_few (s : Sp.T) (h : Sp.check s = 0) : s.tags.length ≤ 16 := by
  unfold Sp.check at h
  split at h
  · cases h
  · rename_i hl
    simp [Sp.long] at hl
    omega

def Iq.offer (q : Iq) (l : List Sp.T) : Nat × Iq :=
  if Sp.bad l ≠ 0 then (Sp.bad l, q) else if l.length = 0 then (0, q) else if q.queue.length = q.n then (13, q) else (0, { q with next := q.next + 1, queue := q.queue ++ [l] })

theorem Intk.push {X : Nat → Prop} {lo hi b rb hb : Nat} {q : Iq} {w wX : World} {ov : Value} {l : List Sp.T} (h : Intk X lo hi w b rb hb q) (hf : q.queue.length ≠ q.n) (hbig : q.next < 1000000) (hl : l.length ≤ 1000000)
    (ho : Rw spanK (ft X lo hi b rb hb) w ov l) (hx : wX.heap = (((w.setCell ⟨rb, q.next % q.n, none⟩ ov).setCell ⟨b, 2, none⟩ (.int .i64 ((q.next : Int) + 1)))).heap) :
    Intk X lo hi wX b rb hb { q with next := q.next + 1, queue := q.queue ++ [l] } := by
  have hsame : ∀ k, k ≠ b → k ≠ rb → wX.heap[k]? = w.heap[k]? := fun k h1 h2 => by
    rw [hx, heap_setCell_other _ _ _ _ h1, heap_setCell_other _ _ _ _ h2]
  have hne : ∀ i, i < q.queue.length → (q.first + i) % q.n ≠ q.next % q.n := fun i hi e => by
    have h1 := h.fit
    have h2 := h.len
    have h3 := Nat.sub_mod_eq_zero_of_mod_eq e.symm
    rw [h2, show q.first + q.queue.length - (q.first + i) = q.queue.length - i by omega, Nat.mod_eq_of_lt (by omega)] at h3
    omega
  have hsz : wX.heap.size = w.heap.size := by rw [hx]; simp
  have hmod := Nat.mod_lt q.next h.n0
  refine { hi_le := by rw [hsz]; exact h.hi_le, l1 := h.l1, l2 := h.l2, l3 := h.l3, u1 := h.u1, u2 := h.u2, u3 := h.u3, d1 := h.d1, d2 := h.d2, d3 := h.d3, blk := ?_, ring := ?_, held := ?_, n0 := h.n0, n1 := h.n1, m1 := h.m1, m2 := h.m2, len := ?_, fit := ?_, big := ?_, sm := ?_, sh := h.sh }
  · have h1 := (h.blk.set_other ⟨rb, q.next % q.n, none⟩ ov (fun e => h.d1 e.symm)).set 2 (.int .i64 ((q.next : Int) + 1))
    exact Blk.same h1 (by rw [hx])
  · obtain ⟨rc, g1, g2, g3⟩ := h.ring
    have h1 := (g1.set (q.next % q.n) ov).set_other ⟨b, 2, none⟩ (.int .i64 ((q.next : Int) + 1)) h.d1
    refine ⟨_, Blk.same h1 (by rw [hx]), by simp [g2], fun i hi => ?_⟩
    by_cases hlt : i < q.queue.length
    · obtain ⟨v, g4, g5⟩ := g3 i hlt
      refine ⟨v, ?_, ?_⟩
      · rw [Array.getElem?_setIfInBounds_ne (fun e => hne i hlt e.symm)]; exact g4
      · rw [List.getElem_append_left hlt]
        exact g5.keep fun k _ hF => hsame k hF.2.2.1 hF.2.2.2.1
    · have hi' : i = q.queue.length := by simp at hi; omega
      subst hi'
      refine ⟨ov, ?_, ?_⟩
      · rw [← h.len, Array.getElem?_setIfInBounds_self_of_lt (by rw [g2]; exact hmod)]
      · rw [List.getElem_append_right (Nat.le_refl _)]
        simp only [Nat.sub_self, List.getElem_cons_zero]
        exact ho.keep fun k _ hF => hsame k hF.2.2.1 hF.2.2.2.1
  · obtain ⟨hc, g1, g2⟩ := h.held
    exact ⟨hc, g1.same (hsame _ (fun e => h.d2 e.symm) (fun e => h.d3 e.symm)), g2.keep fun k _ hF => hsame k hF.2.2.1 hF.2.2.2.1⟩
  · have := h.len; simp; omega
  · have := h.fit; simp; omega
  · show q.next + 1 ≤ _; omega
  · intro x hx
    rcases List.mem_append.1 hx with h1 | h1
    · exact h.sm x h1
    · rw [List.mem_singleton.1 h1]; exact hl

set_option maxRecDepth 100000 in
set_option maxHeartbeats 1000000 in
theorem offer_any {X : Nat → Prop} (lo hi b rb hb : Nat) (q : Iq) (F : Nat → Prop) (v : Value) (l : List Sp.T) (w : World) (hv : Rw spanK F w v l) (hl : l.length ≤ 10000) (h : Intk X lo hi w b rb hb q) (hbig : q.next < 1000000) (hX : ∀ k, X k → k < w.heap.size) :
    Calls Try.prog 9 #[.pointer (some ⟨b, 0, none⟩), v] w fun e w' => e = .returned (.int .i64 ((q.offer l).1 : Int)) ∧ Intk X lo w'.heap.size w' b rb hb (q.offer l).2 ∧ Wrote (fun k => k = b ∨ k = rb) w w' := by
  obtain ⟨a, c, rfl⟩ := hv.isSlice
  have HV := Lib.hid hv
  have HI := Lib.hid h
  have HX := Lib.hid hX
  clear hv h hX
  go_enter Try.func9, Try.ntmps9
  go_wp2_with fail
  refine Calls.mono (none_false HI.out) ?_
  rintro e w1 ⟨rfl, rfl⟩
  go_wp2_with fail
  go_loopw [5, 13] (fun o i wr => ∃ j : Nat, i = .int .i64 j ∧ j ≤ l.length ∧ Hid (ROwned spanK w1.heap.size 35 wr o (l.take j)) ∧ Hid (Sp.bad l = Sp.bad (l.drop j)) ∧ Hid (Below w1.heap.size w1 wr)) (fun _ i _ => l.length - (intOf i).toNat)
  case atStart => exact ⟨0, rfl, by omega, ROwned.nil _ _ _ _, rfl, Below.refl _ _⟩
  case round =>
    obtain ⟨j, rfl, hj, HO, HE, HW⟩ := hrel
    by_cases hlt : j < l.length
    · obtain ⟨sb, off, cap, ea, _, hsb, hc⟩ := spans_at (HV.out.below HW.out) (by omega)
      injection ea with e1 e2 e3
      subst e1 e3
      clear e2
      obtain ⟨vt, ht, hcs⟩ := hc j hlt
      obtain ⟨ta, tc, rfl⟩ := ht.isSlice
      have HT := Lib.hid ht
      have HBd := Lib.hid (Sp.bad_drop l j hlt)
      have HTk : Hid (l.take (j + 1) = l.take j ++ [l[j]]) := List.take_succ_eq_append_getElem hlt
      clear hc ht
      generalize l[j] = s at *
      have k0 := hcs 0 _ rfl
      have k1 := hcs 1 _ rfl
      have k2 := hcs 2 _ rfl
      have k3 := hcs 3 _ rfl
      have k4 := hcs 4 _ rfl
      have k5 := hcs 5 _ rfl
      have k6 := hcs 6 _ rfl
      have k7 := hcs 7 _ rfl
      have k8 := hcs 8 _ rfl
      have k9 := hcs 9 _ rfl
      have k10 := hcs 10 _ rfl
      rw [Nat.add_zero] at k0
      clear hcs
      go_wp2_with fail
      refine calls_gen fun W2 hW2 => ?_
      have HB2 : Hid (Below wr.heap.size wr W2) := by rw [hW2]; exact (Below.refl _ _).alloc (Nat.le_refl _) _
      have HK2 : Hid (Blk W2 wr.heap.size (spanCells s (.slice ta s.tags.length tc)).toArray 35) := by rw [hW2]; exact Blk.at_new rfl rfl
      clear hW2 k0 k1 k2 k3 k4 k5 k6 k7 k8 k9 k10
      refine Calls.mono (check_any F s (.slice ta s.tags.length tc) _ (HT.out.below HB2.out)) ?_
      rintro e w3 ⟨rfl, hb3⟩
      have HB3 : Hid (Below wr.heap.size wr w3) := HB2.out.trans (hb3.mono HB2.out.size)
      have HK3 := Lib.hid (HK2.out.below hb3 HK2.out.lt)
      clear hb3 HB2 HK2
      by_cases hz : Sp.check s = 0
      · have HN : Hid (Sp.bad l = Sp.bad (l.drop (j + 1))) := by
          refine HE.out.trans (HBd.out.trans ?_)
          rw [if_neg (by omega)]
        rw [hz]
        go_wp2_with (with_reducible refine pause_load ?_)
        refine Pause.go (wpList_load_agg rfl 35 _ rfl ⟨wr.heap.size, 0, none⟩ rfl (spanCells s (.slice ta s.tags.length tc)) _ (fun j v hj => by rw [add_plain']; exact HK3.out.cell (by simpa using hj)) Try.underlying35 rfl (by kernel_rfl) ?_)
        go_wp2_with fail
        refine Calls.mono (copy_any F s (.slice ta s.tags.length tc) w3 (HT.out.below HB3.out) (by have := Sp.tags_few s hz; omega)) ?_
        rintro e w4 ⟨vt', rfl, hr4, hb4⟩
        obtain ⟨ua, uc, rfl⟩ := hr4.isSlice
        have HB4 : Hid (Below wr.heap.size wr w4) := HB3.out.trans (hb4.mono HB3.out.size)
        have HR4 : Hid (Rw tagK (fun k => w3.heap.size ≤ k) w4 (.slice ua s.tags.length uc) s.tags) := hr4
        have HS3 : Hid (wr.heap.size ≤ w3.heap.size) := HB3.out.size
        clear hr4 hb4 HB3 HK3
        unfold spanCells
        go_wp2_with (with_reducible refine pause_append ?_)
        refine list_gen fun W5 hW5 => ?_
        have HX5 : Hid (Below w4.heap.size w4 W5) := by rw [hW5]; exact (Below.refl _ _).alloc (Nat.le_refl _) _
        have HK5 : Hid (Blk W5 w4.heap.size (spanCells s (.slice ua s.tags.length uc)).toArray 35) := by rw [hW5]; exact Blk.at_new rfl rfl
        clear hW5
        have HB5 : Hid (Below wr.heap.size wr W5) := HB4.out.trans (HX5.out.mono HB4.out.size)
        have HW5 : Hid (Below w1.heap.size w1 W5) := HW.out.trans (HB5.out.mono HW.out.size)
        have HR5 : Hid (Rw tagK (fun k => w1.heap.size ≤ k ∧ u5.ownBlock ≠ some k) W5 (.slice ua s.tags.length uc) s.tags) :=
          (HR4.out.below HX5.out).mono fun k _ hk => ⟨Nat.le_trans HW.out.size (Nat.le_trans HS3.out hk), fun e => by
            have := (HO.out.lt k e).2
            have := HS3.out
            omega⟩
        have HO5 : Hid (ROwned spanK w1.heap.size 35 W5 u5 (l.take j)) := HO.out.below HB5.out
        refine Pause.go (wpList_append_el (K := spanK) 37 35 _ 120 Try.underlying37 info_span rfl w1.heap.size u5 (l.take j) w4.heap.size 35 _ s rfl _ _ rfl rfl rfl HO5.out HK5.out ⟨_, rfl, HR5.out⟩ (by simp; omega) (by decide) HW5.out.size ?_)
        intro v' W6 ho6 hg6
        rw [← HTk.out] at ho6
        have HO6 := Lib.hid ho6
        have HW6 : Hid (Below w1.heap.size w1 W6) := HW5.out.trans (hg6.below HW5.out.size fun k e => (HO5.out.lt k e).1)
        clear ho6 hg6
        go_wp2_with fail
        go_roundw
        · exact ⟨j + 1, by go_num, by omega, HO6, HN.out, HW6⟩
        · simp only [intOf]; omega
      · have HQ : Hid (q.offer l = (Sp.check s, q)) := by
          have e1 : Sp.bad l = Sp.check s := HE.out.trans (HBd.out.trans (if_pos hz))
          show _ = _
          unfold Iq.offer
          rw [e1, if_pos hz]
        have hz' : ((Sp.check s : Int) != 0) = true := by simp; omega
        have HW3 : Hid (Below w1.heap.size w1 w3) := HW.out.trans (HB3.out.mono HW.out.size)
        generalize Sp.check s = er at *
        go_wp2_with fail
        go_ret
        refine ⟨(congrArg (fun x : Nat × Iq => Ending.returned (.int .i64 (x.1 : Int))) HQ.out).symm, ?_, Wrote.of_below HW3.out⟩
        rw [HQ.out]
        exact (HI.out.next_ HW3.out).up (Nat.le_trans HI.out.hi_le HW3.out.size) (Nat.le_refl _)
    · have HE0 : Hid (Sp.bad l = 0) := by
        have h1 := HE.out
        rw [List.drop_of_length_le (by omega)] at h1
        exact h1
      have hje : l.take j = l := List.take_of_length_le (by omega)
      rw [hje] at HO
      have hje2 : j = l.length := by omega
      subst hje2
      clear hje hlt hj HE
      obtain ⟨oa, oc, rfl⟩ := HO.out.isSlice
      have HI2 : Hid (Intk X lo wr.heap.size wr b rb hb q) := (HI.out.next_ HW.out).up (Nat.le_trans HI.out.hi_le HW.out.size) (Nat.le_refl _)
      by_cases h0 : l.length = 0
      · have HQ : Hid (q.offer l = (0, q)) := by
          show _ = _
          unfold Iq.offer
          rw [HE0.out, if_neg (by simp), if_pos h0]
        rw [h0]
        go_wp2_with fail
        go_ret
        refine ⟨(congrArg (fun x : Nat × Iq => Ending.returned (.int .i64 (x.1 : Int))) HQ.out).symm, ?_, Wrote.of_below HW.out⟩
        rw [HQ.out]
        exact HI2.out
      · have h0' : ((l.length : Int) == 0) = false := beq_eq_false_iff_ne.2 (by omega)
        have k0 : wr.cell? ⟨b, 0, none⟩ = some (.slice (some ⟨rb, 0, none⟩) q.n q.n) := HI2.out.blk.cell rfl
        have k1 : wr.cell? ⟨b, 1, none⟩ = some (.int .i64 (q.first : Int)) := HI2.out.blk.cell rfl
        have k2 : wr.cell? ⟨b, 2, none⟩ = some (.int .i64 (q.next : Int)) := HI2.out.blk.cell rfl
        by_cases hf : q.queue.length = q.n
        · have hlen := HI.out.len
          have hbg := HI.out.big
          have hfull : (RowKit.wrap64 ((q.next : Int) - (q.first : Int)) == (q.n : Int)) = true := by
            rw [beq_iff_eq]; unfold RowKit.wrap64; omega
          clear hlen hbg
          have HQ : Hid (q.offer l = (13, q)) := by
            show _ = _
            unfold Iq.offer
            rw [HE0.out, if_neg (by simp), if_neg h0, if_pos hf]
          go_wp2_with fail
          go_quiet (fail)
          go_wp2_with fail
          go_ret
          refine ⟨(congrArg (fun x : Nat × Iq => Ending.returned (.int .i64 (x.1 : Int))) HQ.out).symm, ?_, (Wrote.of_below HW.out).drewN _⟩
          rw [HQ.out]
          exact HI2.out.below ⟨rfl, rfl, rfl, Nat.le_refl _, fun _ _ => rfl⟩
        · have hlen := HI.out.len
          have hbg := HI.out.big
          have hfull : (RowKit.wrap64 ((q.next : Int) - (q.first : Int)) == (q.n : Int)) = false := by
            rw [beq_eq_false_iff_ne]; unfold RowKit.wrap64; omega
          clear hlen hbg
          have HQ : Hid (q.offer l = (0, { q with next := q.next + 1, queue := q.queue ++ [l] })) := by
            show _ = _
            unfold Iq.offer
            rw [HE0.out, if_neg (by simp), if_neg h0, if_neg hf]
          go_wp2_with fail
          go_quiet (fail)
          go_wp2_with fail
          have hq0 : ¬ q.n = 0 := by have := HI.out.n0; omega
          have hmod : (q.next : Int).tmod (q.n : Int) = ((q.next % q.n : Nat) : Int) := by rw [Int.tmod_eq_emod_of_nonneg (by omega)]; omega
          have hlt := Nat.mod_lt q.next HI.out.n0
          have ht0 : 0 ≤ (q.next : Int).tmod (q.n : Int) := by omega
          have ht1 : (q.next : Int).tmod (q.n : Int) < (q.n : Int) := by omega
          obtain ⟨rc, hr1, hr2, hr3⟩ := HI2.out.ring
          have HRC := Lib.hid hr1
          have HRS := Lib.hid hr2
          have HRV := Lib.hid hr3
          clear hr1 hr2 hr3
          have kr : ∃ u, wr.cell? ⟨rb, ((q.next : Int).tmod (q.n : Int)).toNat, none⟩ = some u := ⟨rc[q.next % q.n]'(by rw [HRS.out]; exact hlt), HRC.out.cell (by rw [hmod, Int.toNat_natCast]; simp)⟩
          obtain ⟨u, ku⟩ := kr
          have fu := HRC.out.free ((q.next : Int).tmod (q.n : Int)).toNat
          have HM := Lib.hid hmod
          clear hmod hlt
          have f2 := HI2.out.blk.free 2
          have hd : b ≠ rb := HI2.out.d1
          have hd' : rb ≠ b := fun e => hd e.symm
          have hbg : IntKind.i64.wrap ((q.next : Int) + 1) = (q.next : Int) + 1 := wrap_small (by omega) (by omega)
          go_region
          all_goals
            go_wp2_with fail
            go_ret
            refine ⟨(congrArg (fun x : Nat × Iq => Ending.returned (.int .i64 (x.1 : Int))) HQ.out).symm, ?_, (((Wrote.of_below HW.out).drewN _).setCell _ _ (.inr rfl)).setCell _ _ (.inl rfl)⟩
            rw [HQ.out]
            refine Intk.up (HI2.out.push (ov := .slice oa l.length oc) hf hbig (by omega) (HO.out.rows.mono fun k hk hF => ?_) rfl) (by simp) (Nat.le_refl _)
            have g1 := HI.out.hi_le
            have g2 := HI.out.l1
            have g3 := HI.out.u1
            have g4 := HI.out.u2
            have g5 := HI.out.u3
            exact ⟨by omega, hk, by omega, by omega, by omega, fun e => by have := HX.out k e; omega⟩
end Go.Proofs.Ytiofhmlmimbngaa
