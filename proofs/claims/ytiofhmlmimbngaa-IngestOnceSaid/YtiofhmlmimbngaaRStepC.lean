/- Chapter 19's document: Step whole; Runnable, Waiting, Held, Left, Idle. -/
import Derived.Test.YtiofhmlmimbngaaRStepB
namespace Go.Proofs.Ytiofhmlmimbngaa
open Go.RowKit

theorem rstep_any (lo hi b hb : Nat) (qb : Option Nat) (q : Iq) (x : Int) (w : World) (h : RIntk lo hi w b hb qb q) :
    Calls Try.prog 25 #[.pointer (some ⟨b, 0, none⟩), .int .i64 x] w (RStepPost lo b hb qb (q.step x) w) := by
  by_cases hx : x < 0 ∨ (q.m : Int) ≤ x
  · have e : q.step x = (0, Sp.zero, 2, q) := by unfold Iq.step; rw [if_pos hx]
    rw [e]; exact rstep_arg lo hi b hb qb q x w h hx
  · obtain ⟨i, rfl⟩ : ∃ i : Nat, x = (i : Int) := ⟨x.toNat, by omega⟩
    have hi1 : i < q.held.length := by have := h.m1; omega
    cases hh : q.held[i] with
    | cons s r =>
      have e : q.step (i : Int) = (2, s, 0, { q with held := q.held.set i r }) := by unfold Iq.step; rw [if_neg hx]; simp [List.getD, hi1, hh]
      rw [e]; exact rstep_span lo hi b hb qb q i s r w h hi1 hh
    | nil =>
      cases hq : q.queue with
      | nil =>
        have e : q.step (i : Int) = (0, Sp.zero, 0, q) := by unfold Iq.step; rw [if_neg hx]; simp [List.getD, hi1, hh, hq]
        rw [e]; exact rstep_idle lo hi b hb qb q i w h hi1 hh hq
      | cons l ls =>
        have e : q.step (i : Int) = (1, Sp.zero, 0, { q with first := q.first + 1, queue := ls, held := q.held.set i l }) := by unfold Iq.step; rw [if_neg hx]; simp [List.getD, hi1, hh, hq]
        rw [e]; exact rstep_take lo hi b hb qb q i l ls w h hi1 hh hq

set_option maxRecDepth 100000 in
set_option maxHeartbeats 1000000 in
theorem rrunnable_any (lo hi b hb : Nat) (qb : Option Nat) (q : Iq) (w : World) (h : RIntk lo hi w b hb qb q) (hlen : q.next = q.first + q.queue.length) :
    Calls Try.prog 27 #[.pointer (some ⟨b, 0, none⟩)] w fun e w' => ∃ v, e = .returned v ∧ ROwned intK w.heap.size 3 w' v q.runnable ∧ Below w.heap.size w w' := by
  have HI := Lib.hid h
  have HL := Lib.hid hlen
  have hm8 := h.m2
  clear h hlen
  go_enter Try.func27, Try.ntmps27
  go_wp2_with fail
  refine Calls.mono (rnone_false HI.out) ?_
  rintro e w1 ⟨rfl, rfl⟩
  go_wp2_with fail
  go_loopw [3, 4] (fun o i wr => ∃ j : Nat, i = .int .i64 j ∧ j ≤ q.m ∧ Hid (ROwned intK w1.heap.size 3 wr o ((List.range j).filter q.runs)) ∧ Hid (Below w1.heap.size w1 wr)) (fun _ i _ => q.m - (intOf i).toNat)
  case atStart => exact ⟨0, rfl, by omega, ROwned.nil _ _ _ _, Below.refl _ _⟩
  case round =>
    obtain ⟨j, rfl, hj, HO, HW⟩ := hrel
    have HI2 : Hid (RIntk lo hi wr b hb qb q) := HI.out.next_ HW.out
    obtain ⟨qv, hbk, hqv⟩ := HI2.out.blk
    obtain ⟨qa, qc0, rfl⟩ := hqv.isSlice
    have kh : wr.cell? ⟨b, 4, none⟩ = some (.slice (some ⟨hb, 0, none⟩) q.m q.m) := hbk.cell rfl
    have kq : wr.cell? ⟨b, 3, none⟩ = some (.slice qa q.queue.length qc0) := hbk.cell rfl
    clear hbk hqv
    by_cases hlt : j < q.m
    · have hjl : j < q.held.length := by have := HI.out.m1; omega
      obtain ⟨v, kv, hv⟩ := HI2.out.row j hjl
      obtain ⟨va, vc, rfl⟩ := hv.isSlice
      have hgd : q.held.getD j [] = q.held[j] := by simp [List.getD, hjl]
      have HR := Lib.hid (q.runs_to j)
      have hrj : q.runs j = (decide (0 < q.held[j].length) || decide (q.first < q.next)) := by unfold Iq.runs; rw [hgd]
      have hlen : ((List.range j).filter q.runs).length ≤ j := by
        have := List.length_filter_le q.runs (List.range j)
        simpa using this
      clear hv hgd
      generalize q.held[j].length = n at *
      have hjm : (j : Int) < (q.m : Int) := by omega
      by_cases hn : 0 < n
      · have hn' : (0 : Int) < (n : Int) := by omega
        have HRt : Hid ((List.range (j + 1)).filter q.runs = (List.range j).filter q.runs ++ [j]) := by
          refine HR.out.trans ?_
          rw [hrj, decide_eq_true hn]; rfl
        clear HR hrj
        go_wp2_with (with_reducible refine pause_append ?_)
        refine list_gen fun W2 hW2 => ?_
        have HX2 : Hid (Below wr.heap.size wr W2) := by rw [hW2]; exact (Below.refl _ _).alloc (Nat.le_refl _) _
        have HK2 : Hid (Blk W2 wr.heap.size #[.int .i64 (j : Int)] 3) := by rw [hW2]; exact Blk.at_new rfl rfl
        clear hW2
        have HW2 : Hid (Below w1.heap.size w1 W2) := HW.out.trans (HX2.out.mono HW.out.size)
        have HO2 := Lib.hid (HO.out.below HX2.out)
        refine Pause.go (wpList_append_el (K := intK) 38 3 _ 8 Try.underlying38 info_int rfl w1.heap.size u3 ((List.range j).filter q.runs) wr.heap.size 3 _ j rfl _ _ rfl rfl rfl HO2.out HK2.out rfl (by omega) (by decide) HW2.out.size ?_)
        intro v' W3 ho3 hg3
        rw [← HRt.out] at ho3
        have HO3 := Lib.hid ho3
        have HW3 : Hid (Below w1.heap.size w1 W3) := HW2.out.trans (hg3.below HW2.out.size fun k e => (HO2.out.lt k e).1)
        clear ho3 hg3
        go_wp2_with fail
        go_roundw
        · exact ⟨j + 1, by go_num, by omega, HO3, HW3⟩
        · simp only [intOf]; omega
      · have hn' : decide ((0 : Int) < (n : Int)) = false := by simp; omega
        by_cases hfn : 0 < q.queue.length
        · have HRt : Hid ((List.range (j + 1)).filter q.runs = (List.range j).filter q.runs ++ [j]) := by
            refine HR.out.trans ?_
            rw [hrj, decide_eq_true (show q.first < q.next by have := HL.out; omega), Bool.or_true]; rfl
          have hfn' : (0 : Int) < (q.queue.length : Int) := by omega
          clear HR hrj
          go_wp2_with (with_reducible refine pause_append ?_)
          refine list_gen fun W2 hW2 => ?_
          have HX2 : Hid (Below wr.heap.size wr W2) := by rw [hW2]; exact (Below.refl _ _).alloc (Nat.le_refl _) _
          have HK2 : Hid (Blk W2 wr.heap.size #[.int .i64 (j : Int)] 3) := by rw [hW2]; exact Blk.at_new rfl rfl
          clear hW2
          have HW2 : Hid (Below w1.heap.size w1 W2) := HW.out.trans (HX2.out.mono HW.out.size)
          have HO2 := Lib.hid (HO.out.below HX2.out)
          refine Pause.go (wpList_append_el (K := intK) 38 3 _ 8 Try.underlying38 info_int rfl w1.heap.size u3 ((List.range j).filter q.runs) wr.heap.size 3 _ j rfl _ _ rfl rfl rfl HO2.out HK2.out rfl (by omega) (by decide) HW2.out.size ?_)
          intro v' W3 ho3 hg3
          rw [← HRt.out] at ho3
          have HO3 := Lib.hid ho3
          have HW3 : Hid (Below w1.heap.size w1 W3) := HW2.out.trans (hg3.below HW2.out.size fun k e => (HO2.out.lt k e).1)
          clear ho3 hg3
          go_wp2_with fail
          go_roundw
          · exact ⟨j + 1, by go_num, by omega, HO3, HW3⟩
          · simp only [intOf]; omega
        · have HRt : Hid ((List.range (j + 1)).filter q.runs = (List.range j).filter q.runs) := by
            refine HR.out.trans ?_
            rw [hrj, decide_eq_false hn, decide_eq_false (show ¬ q.first < q.next by have := HL.out; omega)]; exact List.append_nil _
          have hfn' : decide ((0 : Int) < (q.queue.length : Int)) = false := decide_eq_false (by omega)
          clear HR hrj
          go_wp2_with fail
          go_roundw
          · exact ⟨j + 1, by go_num, by omega, by rw [HRt.out]; exact HO.out, HW.out⟩
          · simp only [intOf]; omega
    · obtain rfl : j = q.m := by omega
      obtain ⟨oa, oc, rfl⟩ := HO.out.isSlice
      go_wp2_with fail
      go_ret
      exact ⟨_, rfl, HO.out, HW.out⟩

theorem rwaiting_any (lo hi b hb : Nat) (qb : Option Nat) (q : Iq) (w : World) (h : RIntk lo hi w b hb qb q) :
    Calls Try.prog 28 #[.pointer (some ⟨b, 0, none⟩)] w fun e w' => e = .returned (.int .i64 (q.queue.length : Int)) ∧ w' = w := by
  have HI := Lib.hid h
  clear h
  go_enter Try.func28, Try.ntmps28
  go_wp2_with fail
  refine Calls.mono (rnone_false HI.out) ?_
  rintro e w1 ⟨rfl, rfl⟩
  obtain ⟨qv, hbk, hqv⟩ := HI.out.blk
  obtain ⟨qa, qc0, rfl⟩ := hqv.isSlice
  have kq : w1.cell? ⟨b, 3, none⟩ = some (.slice qa q.queue.length qc0) := hbk.cell rfl
  clear hbk hqv
  go_wp2_with fail
  go_ret
  exact ⟨rfl, rfl⟩

theorem rheld_any (lo hi b hb : Nat) (qb : Option Nat) (q : Iq) (x : Int) (w : World) (h : RIntk lo hi w b hb qb q) :
    Calls Try.prog 30 #[.pointer (some ⟨b, 0, none⟩), .int .i64 x] w fun e w' => e = .returned (.int .i64 (if x < 0 then 0 else ((q.held.getD x.toNat []).length : Int))) ∧ w' = w := by
  have HI := Lib.hid h
  clear h
  by_cases hx : x < 0
  · rw [if_pos hx]
    go_enter Try.func30, Try.ntmps30
    go_wp2_with fail
    refine Calls.mono (rnone_false HI.out) ?_
    rintro e w1 ⟨rfl, rfl⟩
    go_wp2_with fail
    go_ret
    exact ⟨rfl, rfl⟩
  · rw [if_neg hx]
    obtain ⟨i, rfl⟩ : ∃ i : Nat, x = (i : Int) := ⟨x.toNat, by omega⟩
    rw [Int.toNat_natCast]
    obtain ⟨qv, hbk, _⟩ := HI.out.blk
    have kh : w.cell? ⟨b, 4, none⟩ = some (.slice (some ⟨hb, 0, none⟩) q.m q.m) := hbk.cell rfl
    clear hbk
    have hxx : decide ((i : Int) < 0) = false := by simp
    by_cases hi1 : i < q.m
    · have hil : i < q.held.length := by have := HI.out.m1; omega
      obtain ⟨v, kv, hv⟩ := HI.out.row i hil
      obtain ⟨va, vc, rfl⟩ := hv.isSlice
      have hg : q.held.getD i [] = q.held[i] := by simp [List.getD, hil]
      rw [hg]
      clear hv hg
      have hxy : decide ((q.m : Int) ≤ (i : Int)) = false := by simp; omega
      have hxi : (i : Int) < (q.m : Int) := by omega
      go_enter Try.func30, Try.ntmps30
      go_wp2_with fail
      refine Calls.mono (rnone_false HI.out) ?_
      rintro e w1 ⟨rfl, rfl⟩
      go_wp2_with fail
      go_ret
      exact ⟨rfl, rfl⟩
    · have hg : q.held.getD i [] = [] := by have := HI.out.m1; simp [List.getD]; rw [List.getElem?_eq_none (by omega)]; rfl
      rw [hg]
      have hxy : (q.m : Int) ≤ (i : Int) := by omega
      go_enter Try.func30, Try.ntmps30
      go_wp2_with fail
      refine Calls.mono (rnone_false HI.out) ?_
      rintro e w1 ⟨rfl, rfl⟩
      go_wp2_with fail
      go_ret
      exact ⟨rfl, rfl⟩

theorem QV.at {lo hi b hb : Nat} {w : World} {qb : Option Nat} {a : Option Addr} {c : Nat} {queue : List (List Sp.T)} (h : QV lo hi w b hb qb (.slice a queue.length c) queue) (hne : 0 < queue.length) :
    ∃ g off, a = some ⟨g, off, none⟩ ∧ ∀ i (hi : i < queue.length), ∃ va vc, w.cell? ⟨g, off + i, none⟩ = some (.slice va queue[i].length vc) := by
  rcases h with ⟨_, _, h⟩ | ⟨g, off, cap, qc, h1, h2, h3, h4, h5, h6, h7, h8, h9, h10, h11⟩
  · subst h; simp at hne
  · injection h2 with e1 e2 e3
    refine ⟨g, off, e1, fun i hi => ?_⟩
    obtain ⟨v, g1, g2⟩ := h11 i hi
    obtain ⟨va, vc, rfl⟩ := g2.isSlice
    exact ⟨va, vc, h7.cell g1⟩

set_option maxRecDepth 100000 in
set_option maxHeartbeats 1000000 in
theorem rleft_any (lo hi b hb : Nat) (qb : Option Nat) (q : Iq) (w : World) (h : RIntk lo hi w b hb qb q) :
    Calls Try.prog 31 #[.pointer (some ⟨b, 0, none⟩)] w fun e w' => e = .returned (.int .i64 (q.left : Int)) ∧ w' = w := by
  have HI := Lib.hid h
  have hm8 := h.m2
  have hm1 := h.m1
  have hn64 : q.queue.length ≤ 64 := Nat.le_trans h.fit h.n1
  have hS1 : ∀ j, sumLen (q.queue.take j) ≤ 64 * 1000000 := fun j => Nat.le_trans (sumLen_le _ 1000000 fun x hx => h.sm x (List.mem_of_mem_take hx)) (Nat.mul_le_mul_right _ (by simp; omega))
  have hS2 : ∀ j, sumLen (q.held.take j) ≤ 8 * 1000000 := fun j => Nat.le_trans (sumLen_le _ 1000000 fun x hx => h.sh x (List.mem_of_mem_take hx)) (Nat.mul_le_mul_right _ (by simp; omega))
  have HS1 := Lib.hid hS1
  have HS2 := Lib.hid hS2
  clear h hS1 hS2
  go_enter Try.func31, Try.ntmps31
  go_wp2_with fail
  refine Calls.mono (rnone_false HI.out) ?_
  rintro e w1 ⟨rfl, rfl⟩
  obtain ⟨qv, hbk, hqv⟩ := HI.out.blk
  obtain ⟨qa, qc0, rfl⟩ := hqv.isSlice
  have kh : w1.cell? ⟨b, 4, none⟩ = some (.slice (some ⟨hb, 0, none⟩) q.m q.m) := hbk.cell rfl
  have kq : w1.cell? ⟨b, 3, none⟩ = some (.slice qa q.queue.length qc0) := hbk.cell rfl
  have HQ := Lib.hid hqv
  clear hbk hqv
  go_wp2_with fail
  go_loop [3, 4] (fun n i => ∃ j : Nat, n = .int .i64 (sumLen (q.queue.take j) : Int) ∧ i = .int .i64 (j : Int) ∧ j ≤ q.queue.length) (fun _ i => q.queue.length - (intOf i).toNat)
  case atStart => exact ⟨0, rfl, rfl, by omega⟩
  case round =>
    obtain ⟨j, rfl, rfl, hj⟩ := hrel
    by_cases hlt : j < q.queue.length
    · obtain ⟨g, off, rfl, hat⟩ := HQ.out.at (by omega)
      obtain ⟨va, vc, kr⟩ := hat j hlt
      have HSs := Lib.hid (sumLen_succ q.queue j hlt)
      have hs1 := HS1.out j
      have hs2 := HS1.out (j + 1)
      rw [HSs.out] at hs2
      clear hat
      generalize q.queue[j].length = k at *
      generalize sumLen (q.queue.take j) = z at *
      have hjl : (j : Int) < (q.queue.length : Int) := by omega
      go_wp2_with fail
      go_round
      case rel => exact ⟨j + 1, by rw [HSs.out]; first | exact int_eq (by omega) | exact int_eq ((wrap_small (by omega) (by omega)).trans (by omega)), by go_num, by omega⟩
      case measure => simp only [intOf]; omega
    · have hje : q.queue.take j = q.queue := List.take_of_length_le (by omega)
      rw [hje]
      have hs1 := HS1.out q.queue.length
      rw [List.take_length] at hs1
      have hjl : ¬ (j : Int) < (q.queue.length : Int) := by omega
      go_wp2_with fail
      clear hje hlt hj hjl
      go_loop [3, 5] (fun n i => ∃ j : Nat, n = .int .i64 ((sumLen q.queue + sumLen (q.held.take j) : Nat) : Int) ∧ i = .int .i64 (j : Int) ∧ j ≤ q.m) (fun _ i => q.m - (intOf i).toNat)
      case atStart => exact ⟨0, by simp [sumLen], rfl, by omega⟩
      case round =>
        obtain ⟨j, rfl, rfl, hj⟩ := hrel
        by_cases hlt : j < q.m
        · obtain ⟨v, kv, hv⟩ := HI.out.row j (by omega)
          obtain ⟨va, vc, rfl⟩ := hv.isSlice
          clear hv
          have HSs := Lib.hid (sumLen_succ q.held j (by omega))
          have hs3 := HS2.out (j + 1)
          rw [HSs.out] at hs3
          generalize q.held[j].length = k at *
          generalize hz : sumLen q.queue + sumLen (q.held.take j) = z at *
          have HZ := Lib.hid hz
          have hzz : z + k ≤ 100000000 := by omega
          have hjm : (j : Int) < (q.m : Int) := by omega
          clear hz hs1 hs3
          go_wp2_with fail
          go_round
          case rel => exact ⟨j + 1, by rw [HSs.out]; first | exact int_eq (by have := HZ.out; omega) | exact int_eq ((wrap_small (by omega) (by omega)).trans (by have := HZ.out; omega)), by go_num, by omega⟩
          case measure => simp only [intOf]; omega
        · have HE : Hid (sumLen q.queue + sumLen (q.held.take j) = q.left) := by
            show _ = _
            rw [List.take_of_length_le (by omega)]; rfl
          rw [HE.out]
          go_wp2_with fail
          go_ret
          exact ⟨rfl, rfl⟩

theorem ridle_any (lo hi b hb : Nat) (qb : Option Nat) (q : Iq) (w : World) (h : RIntk lo hi w b hb qb q) :
    Calls Try.prog 32 #[.pointer (some ⟨b, 0, none⟩)] w fun e w' => e = .returned (.bool (decide (q.left = 0))) ∧ w' = w := by
  have HI := Lib.hid h
  clear h
  go_enter Try.func32, Try.ntmps32
  go_wp2_with fail
  refine Calls.mono (rleft_any lo hi b hb qb q w HI.out) ?_
  rintro e w1 ⟨rfl, rfl⟩
  by_cases hz : q.left = 0
  · have h1 : ((q.left : Int) == 0) = true := beq_iff_eq.2 (by omega)
    go_wp2_with fail
    go_ret
    exact ⟨ret_bool (by simp [hz]), rfl⟩
  · have h1 : ((q.left : Int) == 0) = false := beq_eq_false_iff_ne.2 (by omega)
    go_wp2_with fail
    go_ret
    exact ⟨ret_bool (by simp [hz]), rfl⟩
end Go.Proofs.Ytiofhmlmimbngaa
