/- The intake: Left, Idle. -/
import Derived.Test.YtiofhmlmimbngaaIntakeG
namespace Go.Proofs.Ytiofhmlmimbngaa
open Go.RowKit

def sumLen (l : List (List Sp.T)) : Nat := (l.map List.length).sum
theorem sumLen_succ (l : List (List Sp.T)) (j : Nat) (h : j < l.length) : sumLen (l.take (j + 1)) = sumLen (l.take j) + l[j].length := by
  unfold sumLen
  rw [List.take_succ_eq_append_getElem h, List.map_append, List.sum_append]
  simp
theorem sumLen_le (l : List (List Sp.T)) (B : Nat) (h : ∀ x ∈ l, x.length ≤ B) : sumLen l ≤ l.length * B := by
  induction l with
  | nil => simp [sumLen]
  | cons x l ih =>
    have h1 := ih fun y hy => h y (by simp [hy])
    have h2 := h x (by simp)
    unfold sumLen at *
    simp only [List.map_cons, List.sum_cons, List.length_cons, Nat.add_mul, Nat.one_mul]
    omega
theorem dn_more {w w1 : World} (h : ∃ n, w1 = w.drewN n) (k : Nat) : ∃ n, w1.drewN k = w.drewN n := by
  obtain ⟨n, e⟩ := h
  exact ⟨n + k, by rw [e, World.drewN_drewN]⟩
def Iq.left (q : Iq) : Nat := sumLen q.queue + sumLen q.held

set_option maxRecDepth 100000 in
set_option maxHeartbeats 1000000 in
theorem left_any {X : Nat → Prop} (lo hi b rb hb : Nat) (q : Iq) (w : World) (h : Intk X lo hi w b rb hb q) :
    Calls Try.prog 14 #[.pointer (some ⟨b, 0, none⟩)] w fun e w' => e = .returned (.int .i64 (q.left : Int)) ∧ ∃ n, w' = w.drewN n := by
  have HI := Lib.hid h
  have hm8 := h.m2
  have hm1 := h.m1
  have hlen := h.len
  have hbig := h.big
  have hn64 : q.queue.length ≤ 64 := Nat.le_trans h.fit h.n1
  have hS1 : ∀ j, sumLen (q.queue.take j) ≤ 64 * 1000000 := fun j => Nat.le_trans (sumLen_le _ 1000000 fun x hx => h.sm x (List.mem_of_mem_take hx)) (Nat.mul_le_mul_right _ (by simp; omega))
  have hS2 : ∀ j, sumLen (q.held.take j) ≤ 8 * 1000000 := fun j => Nat.le_trans (sumLen_le _ 1000000 fun x hx => h.sh x (List.mem_of_mem_take hx)) (Nat.mul_le_mul_right _ (by simp; omega))
  have HL := Lib.hid hlen
  have HS1 := Lib.hid hS1
  have HS2 := Lib.hid hS2
  clear h hS1 hS2 hlen
  go_enter Try.func14, Try.ntmps14
  go_wp2_with fail
  refine Calls.mono (none_false HI.out) ?_
  rintro e w1 ⟨rfl, rfl⟩
  have kf : w1.cell? ⟨b, 1, none⟩ = some (.int .i64 (q.first : Int)) := HI.out.blk.cell rfl
  go_wp2_with fail
  clear kf
  go_loopw [3, 4] (fun n i wr => ∃ j p : Nat, n = .int .i64 (sumLen (q.queue.take j) : Int) ∧ i = .int .i64 (p : Int) ∧ Hid (p = q.first + j) ∧ j ≤ q.queue.length ∧ Hid (∃ n, wr = w1.drewN n)) (fun _ i _ => q.next - (intOf i).toNat)
  case atStart => exact ⟨0, q.first, rfl, rfl, rfl, by omega, 0, rfl⟩
  case round =>
    obtain ⟨j, p, rfl, rfl, HP, hj, HW⟩ := hrel
    have HIr : Hid (Intk X lo hi wr b rb hb q) := by obtain ⟨n, e⟩ := HW.out; rw [e]; exact HI.out.next_ (below_dn (Below.refl _ _) _)
    have kn : wr.cell? ⟨b, 2, none⟩ = some (.int .i64 (q.next : Int)) := HIr.out.blk.cell rfl
    by_cases hlt : j < q.queue.length
    · have kg : wr.cell? ⟨b, 0, none⟩ = some (.slice (some ⟨rb, 0, none⟩) q.n q.n) := HIr.out.blk.cell rfl
      have hq0 : ¬ q.n = 0 := by have := HI.out.n0; omega
      have hmod : (p : Int).tmod (q.n : Int) = ((p % q.n : Nat) : Int) := by rw [Int.tmod_eq_emod_of_nonneg (by omega)]; omega
      have hml := Nat.mod_lt p HI.out.n0
      have ht0 : 0 ≤ (p : Int).tmod (q.n : Int) := by omega
      have ht1 : (p : Int).tmod (q.n : Int) < (q.n : Int) := by omega
      obtain ⟨va, vc, kr⟩ : ∃ va vc, wr.cell? ⟨rb, ((p : Int).tmod (q.n : Int)).toNat, none⟩ = some (.slice va q.queue[j].length vc) := by
        obtain ⟨rc, g1, g2, g3⟩ := HIr.out.ring
        obtain ⟨ov, g4, g5⟩ := g3 j hlt
        obtain ⟨va, vc, rfl⟩ := g5.isSlice
        refine ⟨va, vc, g1.cell ?_⟩
        rw [hmod, Int.toNat_natCast, HP.out]; exact g4
      have HSs := Lib.hid (sumLen_succ q.queue j hlt)
      have hs1 := HS1.out j
      have hs2 := HS1.out (j + 1)
      rw [HSs.out] at hs2
      clear hmod hml
      generalize q.queue[j].length = k at *
      generalize sumLen (q.queue.take j) = z at *
      have hfj : p < q.next := by have := HP.out; have := HL.out; omega
      go_wp2_with fail
      go_quiet (fail)
      go_wp2_with fail
      go_roundw
      · exact ⟨j + 1, p + 1, by rw [HSs.out]; exact int_eq ((wrap_small (by omega) (by omega)).trans (by omega)), by go_num, by have := HP.out; show _ = _; omega, by omega, dn_more HW.out _⟩
      · simp only [intOf]; omega
    · have hje : q.queue.take j = q.queue := List.take_of_length_le (by omega)
      rw [hje]
      have hs1 := HS1.out q.queue.length
      rw [List.take_length] at hs1
      have hfj : ¬ p < q.next := by have := HP.out; have := HL.out; omega
      have kh : wr.cell? ⟨b, 3, none⟩ = some (.slice (some ⟨hb, 0, none⟩) q.m q.m) := HIr.out.blk.cell rfl
      go_wp2_with fail
      clear hje hlt hj
      go_loopw [3, 42] (fun n i w2 => ∃ j : Nat, n = .int .i64 ((sumLen q.queue + sumLen (q.held.take j) : Nat) : Int) ∧ i = .int .i64 (j : Int) ∧ j ≤ q.m ∧ Hid (w2 = wr)) (fun _ i _ => q.m - (intOf i).toNat)
      case atStart => exact ⟨0, by simp [sumLen], rfl, by omega, rfl⟩
      case round =>
        obtain ⟨j, rfl, rfl, hj, HW2⟩ := hrel
        obtain rfl := HW2.out
        by_cases hlt : j < q.m
        · obtain ⟨v, kv, hv⟩ := HIr.out.row j (by omega)
          obtain ⟨va, vc, rfl⟩ := hv.isSlice
          clear hv
          have HSs := Lib.hid (sumLen_succ q.held j (by omega))
          have hs3 := HS2.out (j + 1)
          rw [HSs.out] at hs3
          generalize q.held[j].length = k at *
          generalize hz : sumLen q.queue + sumLen (q.held.take j) = z at *
          have HZ := Lib.hid hz
          have hzz : z + k ≤ 100000000 := by omega
          clear hz hs1 hs3
          go_wp2_with fail
          go_roundw
          · exact ⟨j + 1, by rw [HSs.out]; exact int_eq (by have := HZ.out; omega), by go_num, by omega, trivial⟩
          · simp only [intOf]; omega
        · have HE : Hid (sumLen q.queue + sumLen (q.held.take j) = q.left) := by
            show _ = _
            rw [List.take_of_length_le (by omega)]; rfl
          rw [HE.out]
          go_wp2_with fail
          go_ret
          exact ⟨rfl, HW.out⟩

theorem idle_any {X : Nat → Prop} (lo hi b rb hb : Nat) (q : Iq) (w : World) (h : Intk X lo hi w b rb hb q) :
    Calls Try.prog 15 #[.pointer (some ⟨b, 0, none⟩)] w fun e w' => e = .returned (.bool (decide (q.left = 0))) ∧ ∃ n, w' = w.drewN n := by
  have HI := Lib.hid h
  clear h
  go_enter Try.func15, Try.ntmps15
  go_wp2_with fail
  refine Calls.mono (left_any lo hi b rb hb q w HI.out) ?_
  rintro e w1 ⟨rfl, n, rfl⟩
  by_cases hz : q.left = 0
  · have h1 : ((q.left : Int) == 0) = true := beq_iff_eq.2 (by omega)
    go_wp2_with fail
    go_ret
    exact ⟨ret_bool (by simp [hz]), n, rfl⟩
  · have h1 : ((q.left : Int) == 0) = false := beq_eq_false_iff_ne.2 (by omega)
    go_wp2_with fail
    go_ret
    exact ⟨ret_bool (by simp [hz]), n, rfl⟩

/-- No block is set apart. -/
def NoX (_ : Nat) : Prop := False

theorem Intk.xmono {X X' : Nat → Prop} {lo hi b rb hb : Nat} {w : World} {q : Iq} (h : Intk X lo hi w b rb hb q) (hx : ∀ k, k < hi → X' k → X k) : Intk X' lo hi w b rb hb q where
  hi_le := h.hi_le
  l1 := h.l1
  l2 := h.l2
  l3 := h.l3
  u1 := h.u1
  u2 := h.u2
  u3 := h.u3
  d1 := h.d1
  d2 := h.d2
  d3 := h.d3
  blk := h.blk
  ring := by
    obtain ⟨rc, g1, g2, g3⟩ := h.ring
    refine ⟨rc, g1, g2, fun i hi => ?_⟩
    obtain ⟨v, g4, g5⟩ := g3 i hi
    exact ⟨v, g4, g5.mono fun k _ hF => ⟨hF.1, hF.2.1, hF.2.2.1, hF.2.2.2.1, hF.2.2.2.2.1, fun e => hF.2.2.2.2.2 (hx k hF.2.1 e)⟩⟩
  held := by
    obtain ⟨hc, g1, g2⟩ := h.held
    exact ⟨hc, g1, g2.mono fun k _ hF => ⟨hF.1, hF.2.1, hF.2.2.1, hF.2.2.2.1, hF.2.2.2.2.1, fun e => hF.2.2.2.2.2 (hx k hF.2.1 e)⟩⟩
  n0 := h.n0
  n1 := h.n1
  m1 := h.m1
  m2 := h.m2
  len := h.len
  fit := h.fit
  big := h.big
  sm := h.sm
  sh := h.sh

/-- Others write into the blocks that are set apart. -/
theorem Intk.wrote {X S : Nat → Prop} {lo hi b rb hb : Nat} {w w' : World} {q : Iq} (h : Intk X lo hi w b rb hb q) (hw : Wrote S w w') (hS : ∀ k, S k → X k) (s1 : ¬ S b) (s2 : ¬ S rb) (s3 : ¬ S hb) : Intk X lo hi w' b rb hb q where
  hi_le := Nat.le_trans h.hi_le hw.size
  l1 := h.l1
  l2 := h.l2
  l3 := h.l3
  u1 := h.u1
  u2 := h.u2
  u3 := h.u3
  d1 := h.d1
  d2 := h.d2
  d3 := h.d3
  blk := h.blk.same (hw.block b (Nat.lt_of_lt_of_le h.u1 h.hi_le) s1)
  ring := by
    obtain ⟨rc, g1, g2, g3⟩ := h.ring
    refine ⟨rc, g1.same (hw.block rb (Nat.lt_of_lt_of_le h.u2 h.hi_le) s2), g2, fun i hi => ?_⟩
    obtain ⟨v, g4, g5⟩ := g3 i hi
    exact ⟨v, g4, g5.keep fun k hk hF => hw.block k hk fun e => hF.2.2.2.2.2 (hS k e)⟩
  held := by
    obtain ⟨hc, g1, g2⟩ := h.held
    exact ⟨hc, g1.same (hw.block hb (Nat.lt_of_lt_of_le h.u3 h.hi_le) s3), g2.keep fun k hk hF => hw.block k hk fun e => hF.2.2.2.2.2 (hS k e)⟩
  n0 := h.n0
  n1 := h.n1
  m1 := h.m1
  m2 := h.m2
  len := h.len
  fit := h.fit
  big := h.big
  sm := h.sm
  sh := h.sh
end Go.Proofs.Ytiofhmlmimbngaa
