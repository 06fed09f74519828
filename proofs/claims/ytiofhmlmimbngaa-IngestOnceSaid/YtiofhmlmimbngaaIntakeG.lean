/- The intake: Step whole; Runnable, Waiting, Held. -/
import Derived.Test.YtiofhmlmimbngaaIntakeF
namespace Go.Proofs.Ytiofhmlmimbngaa
open Go.RowKit

theorem step_any {X : Nat → Prop} (lo hi b rb hb : Nat) (q : Iq) (x : Int) (w : World) (h : Intk X lo hi w b rb hb q) :
    Calls Try.prog 12 #[.pointer (some ⟨b, 0, none⟩), .int .i64 x] w (StepPost X lo b rb hb (q.step x) w) := by
  by_cases hx : x < 0 ∨ (q.m : Int) ≤ x
  · have e : q.step x = (0, Sp.zero, 2, q) := by unfold Iq.step; rw [if_pos hx]
    rw [e]; exact step_arg lo hi b rb hb q x w h hx
  · obtain ⟨i, rfl⟩ : ∃ i : Nat, x = (i : Int) := ⟨x.toNat, by omega⟩
    have hi1 : i < q.held.length := by have := h.m1; omega
    have hg : q.held.getD i [] = q.held[i] := by simp [List.getD, hi1]
    cases hh : q.held[i] with
    | cons s r =>
      have e : q.step (i : Int) = (2, s, 0, { q with held := q.held.set i r }) := by unfold Iq.step; rw [if_neg hx]; simp [List.getD, hi1, hh]
      rw [e]; exact step_span lo hi b rb hb q i s r w h hi1 hh
    | nil =>
      cases hq : q.queue with
      | nil =>
        have e : q.step (i : Int) = (0, Sp.zero, 0, q) := by unfold Iq.step; rw [if_neg hx]; simp [List.getD, hi1, hh, hq]
        rw [e]; exact step_idle lo hi b rb hb q i w h hi1 hh hq
      | cons l ls =>
        have e : q.step (i : Int) = (1, Sp.zero, 0, { q with first := q.first + 1, queue := ls, held := q.held.set i l }) := by unfold Iq.step; rw [if_neg hx]; simp [List.getD, hi1, hh, hq]
        rw [e]; exact step_take lo hi b rb hb q i l ls w h hi1 hh hq

def intK : Kind Nat := plainK 1 (by decide) (fun n => [.int .i64 (n : Int)]) (fun _ => rfl) (fun n u hu => by simp at hu; rw [hu]; rfl)
theorem info_int : (Try.prog.info? 3).map (fun i => (i.zero, i.size, i.bytes)) = some (some (.int .i64 0), intK.sz, 8) := by kernel_rfl

def Iq.runs (q : Iq) (i : Nat) : Bool := decide (0 < (q.held.getD i []).length) || decide (q.first < q.next)
def Iq.runnable (q : Iq) : List Nat := (List.range q.m).filter q.runs

theorem Iq.runs_to (q : Iq) (j : Nat) : (List.range (j + 1)).filter q.runs = (List.range j).filter q.runs ++ (if q.runs j then [j] else []) := by
  rw [List.range_succ, List.filter_append]
  congr 1
  cases h : q.runs j <;> simp [h]

set_option maxRecDepth 100000 in
set_option maxHeartbeats 1000000 in
theorem runnable_any {X : Nat → Prop} (lo hi b rb hb : Nat) (q : Iq) (w : World) (h : Intk X lo hi w b rb hb q) :
    Calls Try.prog 11 #[.pointer (some ⟨b, 0, none⟩)] w fun e w' => ∃ v, e = .returned v ∧ ROwned intK w.heap.size 3 w' v q.runnable ∧ Below w.heap.size w w' := by
  have HI := Lib.hid h
  have hm8 := h.m2
  clear h
  go_enter Try.func11, Try.ntmps11
  go_wp2_with fail
  refine Calls.mono (none_false HI.out) ?_
  rintro e w1 ⟨rfl, rfl⟩
  have kh : w1.cell? ⟨b, 3, none⟩ = some (.slice (some ⟨hb, 0, none⟩) q.m q.m) := HI.out.blk.cell rfl
  go_wp2_with fail
  clear kh
  go_loopw [3, 13] (fun o i wr => ∃ j : Nat, i = .int .i64 j ∧ j ≤ q.m ∧ Hid (ROwned intK w1.heap.size 3 wr o ((List.range j).filter q.runs)) ∧ Hid (Below w1.heap.size w1 wr)) (fun _ i _ => q.m - (intOf i).toNat)
  case atStart => exact ⟨0, rfl, by omega, ROwned.nil _ _ _ _, Below.refl _ _⟩
  case round =>
    obtain ⟨j, rfl, hj, HO, HW⟩ := hrel
    by_cases hlt : j < q.m
    · have HI2 : Hid (Intk X lo hi wr b rb hb q) := HI.out.next_ HW.out
      have hjl : j < q.held.length := by have := HI.out.m1; omega
      obtain ⟨v, kv, hv⟩ := HI2.out.row j hjl
      obtain ⟨va, vc, rfl⟩ := hv.isSlice
      have hgd : q.held.getD j [] = q.held[j] := by simp [List.getD, hjl]
      have HR := Lib.hid (q.runs_to j)
      have hrj : q.runs j = (decide (0 < q.held[j].length) || decide (q.first < q.next)) := by unfold Iq.runs; rw [hgd]
      have hlen : ((List.range j).filter q.runs).length ≤ j := by
        have := List.length_filter_le q.runs (List.range j)
        simpa using this
      clear hv hgd
      have kf : wr.cell? ⟨b, 1, none⟩ = some (.int .i64 (q.first : Int)) := HI2.out.blk.cell rfl
      have kn : wr.cell? ⟨b, 2, none⟩ = some (.int .i64 (q.next : Int)) := HI2.out.blk.cell rfl
      generalize q.held[j].length = n at *
      have hadd : ∀ {W : World}, Below wr.heap.size wr W → True := fun _ => trivial
      by_cases hn : 0 < n
      · have hn' : (0 : Int) < (n : Int) := by omega
        have HRt : Hid ((List.range (j + 1)).filter q.runs = (List.range j).filter q.runs ++ [j]) := by
          refine HR.out.trans ?_
          rw [hrj, decide_eq_true hn]; rfl
        clear HR hrj
        go_wp2_with fail
        go_quiet (fail)
        go_wp2_with (with_reducible refine pause_append ?_)
        refine list_gen fun W2 hW2 => ?_
        have HX2 : Hid (Below wr.heap.size wr W2) := by rw [hW2]; exact (below_dn (Below.refl _ _) _).alloc (Nat.le_refl _) _
        have HK2 : Hid (Blk W2 wr.heap.size #[.int .i64 (j : Int)] 3) := by rw [hW2]; exact Blk.at_new rfl rfl
        clear hW2
        have HW2 : Hid (Below w1.heap.size w1 W2) := HW.out.trans (HX2.out.mono HW.out.size)
        have HO2 := Lib.hid (HO.out.below HX2.out)
        refine Pause.go (wpList_append_el (K := intK) 38 3 _ 8 Try.underlying38 info_int rfl w1.heap.size u3 ((List.range j).filter q.runs) wr.heap.size 3 _ j rfl _ _ rfl rfl rfl HO2.out HK2.out rfl (by omega) (by decide) HW2.out.size ?_)
        intro v' W3 ho3 hg3
        rw [← HRt.out] at ho3
        have HO3 := Lib.hid ho3
        have HW3 : Hid (Below w1.heap.size w1 W3) := HW2.out.trans (hg3.below HW2.out.size fun k e => (HO2.out.lt k e).1)
        clear ho3 hg3
        go_wp2_with fail
        go_roundw
        · exact ⟨j + 1, by go_num, by omega, HO3, HW3⟩
        · simp only [intOf]; omega
      · have hn' : decide ((0 : Int) < (n : Int)) = false := by simp; omega
        by_cases hfn : q.first < q.next
        · have HRt : Hid ((List.range (j + 1)).filter q.runs = (List.range j).filter q.runs ++ [j]) := by
            refine HR.out.trans ?_
            rw [hrj, decide_eq_true hfn, Bool.or_true]; rfl
          have hfn' : (q.first : Int) < (q.next : Int) := by omega
          clear HR hrj
          go_wp2_with fail
          go_quiet (fail)
          go_wp2_with (with_reducible refine pause_append ?_)
          refine list_gen fun W2 hW2 => ?_
          have HX2 : Hid (Below wr.heap.size wr W2) := by rw [hW2]; exact (below_dn (Below.refl _ _) _).alloc (Nat.le_refl _) _
          have HK2 : Hid (Blk W2 wr.heap.size #[.int .i64 (j : Int)] 3) := by rw [hW2]; exact Blk.at_new rfl rfl
          clear hW2
          have HW2 : Hid (Below w1.heap.size w1 W2) := HW.out.trans (HX2.out.mono HW.out.size)
          have HO2 := Lib.hid (HO.out.below HX2.out)
          refine Pause.go (wpList_append_el (K := intK) 38 3 _ 8 Try.underlying38 info_int rfl w1.heap.size u3 ((List.range j).filter q.runs) wr.heap.size 3 _ j rfl _ _ rfl rfl rfl HO2.out HK2.out rfl (by omega) (by decide) HW2.out.size ?_)
          intro v' W3 ho3 hg3
          rw [← HRt.out] at ho3
          have HO3 := Lib.hid ho3
          have HW3 : Hid (Below w1.heap.size w1 W3) := HW2.out.trans (hg3.below HW2.out.size fun k e => (HO2.out.lt k e).1)
          clear ho3 hg3
          go_wp2_with fail
          go_roundw
          · exact ⟨j + 1, by go_num, by omega, HO3, HW3⟩
          · simp only [intOf]; omega
        · have HRt : Hid ((List.range (j + 1)).filter q.runs = (List.range j).filter q.runs) := by
            refine HR.out.trans ?_
            rw [hrj, decide_eq_false hn, decide_eq_false hfn]; exact List.append_nil _
          have hfn' : decide ((q.first : Int) < (q.next : Int)) = false := by simp; omega
          clear HR hrj
          go_wp2_with fail
          go_quiet (fail)
          go_wp2_with fail
          go_roundw
          · exact ⟨j + 1, by go_num, by omega, by rw [HRt.out]; exact HO.out.below (below_dn (Below.refl _ _) _), below_dn HW.out _⟩
          · simp only [intOf]; omega
    · obtain rfl : j = q.m := by omega
      obtain ⟨oa, oc, rfl⟩ := HO.out.isSlice
      go_wp2_with fail
      go_ret
      exact ⟨_, rfl, HO.out, HW.out⟩

theorem waiting_any {X : Nat → Prop} (lo hi b rb hb : Nat) (q : Iq) (w : World) (h : Intk X lo hi w b rb hb q) :
    Calls Try.prog 18 #[.pointer (some ⟨b, 0, none⟩)] w fun e w' => e = .returned (.int .i64 (q.queue.length : Int)) ∧ ∃ n, w' = w.drewN n := by
  have HI := Lib.hid h
  have hbig := h.big
  have hlen := h.len
  clear h
  go_enter Try.func18, Try.ntmps18
  go_wp2_with fail
  refine Calls.mono (none_false HI.out) ?_
  rintro e w1 ⟨rfl, rfl⟩
  have kf : w1.cell? ⟨b, 1, none⟩ = some (.int .i64 (q.first : Int)) := HI.out.blk.cell rfl
  have kn : w1.cell? ⟨b, 2, none⟩ = some (.int .i64 (q.next : Int)) := HI.out.blk.cell rfl
  go_wp2_with fail
  go_quiet (fail)
  go_wp2_with fail
  go_ret
  exact ⟨ret_int (by omega), _, rfl⟩

theorem held_any {X : Nat → Prop} (lo hi b rb hb : Nat) (q : Iq) (x : Int) (w : World) (h : Intk X lo hi w b rb hb q) :
    Calls Try.prog 29 #[.pointer (some ⟨b, 0, none⟩), .int .i64 x] w fun e w' => e = .returned (.int .i64 (if x < 0 then 0 else ((q.held.getD x.toNat []).length : Int))) ∧ w' = w := by
  have HI := Lib.hid h
  clear h
  by_cases hx : x < 0
  · rw [if_pos hx]
    go_enter Try.func29, Try.ntmps29
    go_wp2_with fail
    refine Calls.mono (none_false HI.out) ?_
    rintro e w1 ⟨rfl, rfl⟩
    go_wp2_with fail
    go_ret
    exact ⟨rfl, rfl⟩
  · rw [if_neg hx]
    obtain ⟨i, rfl⟩ : ∃ i : Nat, x = (i : Int) := ⟨x.toNat, by omega⟩
    rw [Int.toNat_natCast]
    have kh : w.cell? ⟨b, 3, none⟩ = some (.slice (some ⟨hb, 0, none⟩) q.m q.m) := HI.out.blk.cell rfl
    have hxx : decide ((i : Int) < 0) = false := by simp
    by_cases hi1 : i < q.m
    · have hil : i < q.held.length := by have := HI.out.m1; omega
      obtain ⟨v, kv, hv⟩ := HI.out.row i hil
      obtain ⟨va, vc, rfl⟩ := hv.isSlice
      have hg : q.held.getD i [] = q.held[i] := by simp [List.getD, hil]
      rw [hg]
      clear hv hg
      have hxy : decide ((q.m : Int) ≤ (i : Int)) = false := by simp; omega
      have hxi : (i : Int) < (q.m : Int) := by omega
      go_enter Try.func29, Try.ntmps29
      go_wp2_with fail
      refine Calls.mono (none_false HI.out) ?_
      rintro e w1 ⟨rfl, rfl⟩
      go_wp2_with fail
      go_ret
      exact ⟨rfl, rfl⟩
    · have hg : q.held.getD i [] = [] := by have := HI.out.m1; simp [List.getD]; rw [List.getElem?_eq_none (by omega)]; rfl
      rw [hg]
      have hxy : (q.m : Int) ≤ (i : Int) := by omega
      go_enter Try.func29, Try.ntmps29
      go_wp2_with fail
      refine Calls.mono (none_false HI.out) ?_
      rintro e w1 ⟨rfl, rfl⟩
      go_wp2_with fail
      go_ret
      exact ⟨rfl, rfl⟩
end Go.Proofs.Ytiofhmlmimbngaa
