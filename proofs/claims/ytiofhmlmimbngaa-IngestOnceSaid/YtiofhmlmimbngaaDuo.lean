/- Both intakes side by side. -/
import Derived.Test.YtiofhmlmimbngaaRStepC
namespace Go.Proofs.Ytiofhmlmimbngaa
open Go.RowKit

theorem RIntk.wrote {S : Nat → Prop} {lo hi b hb : Nat} {qb : Option Nat} {w w' : World} {q : Iq} (h : RIntk lo hi w b hb qb q) (hw : Wrote S w w') (hS : ∀ k, S k → k < lo) : RIntk lo hi w' b hb qb q where
  hi_le := Nat.le_trans h.hi_le hw.size
  l1 := h.l1
  l3 := h.l3
  u1 := h.u1
  u3 := h.u3
  d2 := h.d2
  blk := by
    obtain ⟨qv, g1, g2⟩ := h.blk
    have hk : ∀ k, lo ≤ k → k < hi → w'.heap[k]? = w.heap[k]? := fun k h1 h2 => hw.block k (Nat.lt_of_lt_of_le h2 h.hi_le) fun e => by have := hS k e; omega
    refine ⟨qv, g1.same (hk b h.l1 h.u1), ?_⟩
    rcases g2 with g2 | ⟨g, off, cap, qc, h1, h2, h3, h4, h5, h6, h7, h8, h9, h10, h11⟩
    · exact .inl g2
    · refine .inr ⟨g, off, cap, qc, h1, h2, h3, h4, h5, h6, h7.same (hk g h3 h4), h8, h9, h10, fun i hi => ?_⟩
      obtain ⟨v, g1, g2⟩ := h11 i hi
      exact ⟨v, g1, g2.keep fun k _ hF => hk k hF.1 hF.2.1⟩
  held := by
    have hk : ∀ k, lo ≤ k → k < hi → w'.heap[k]? = w.heap[k]? := fun k h1 h2 => hw.block k (Nat.lt_of_lt_of_le h2 h.hi_le) fun e => by have := hS k e; omega
    obtain ⟨hc, g1, g2⟩ := h.held
    exact ⟨hc, g1.same (hk hb h.l3 h.u3), g2.keep fun k _ hF => hk k hF.1 hF.2.1⟩
  qlo := h.qlo
  n0 := h.n0
  n1 := h.n1
  m1 := h.m1
  m2 := h.m2
  fit := h.fit
  sm := h.sm
  sh := h.sh

def apart (b' hb' : Nat) (qb : Option Nat) (k : Nat) : Prop := k = b' ∨ k = hb' ∨ qb = some k

structure Duo (B lo lo' b rb hb b' hb' : Nat) (qb : Option Nat) (W w : World) (qi qr : Iq) : Prop where
  I : Intk (apart b' hb' qb) lo w.heap.size w b rb hb qi
  R : RIntk lo' w.heap.size w b' hb' qb qr
  s1 : b < lo'
  s2 : rb < lo'
  s3 : hb < lo'
  l1 : B ≤ lo
  l2 : lo ≤ lo'
  W : Below B W w

section
variable {B lo lo' b rb hb b' hb' : Nat} {qb : Option Nat} {W w w' : World} {qi qr : Iq}
theorem Duo.below (h : Duo B lo lo' b rb hb b' hb' qb W w qi qr) (k : Below w.heap.size w w') : Duo B lo lo' b rb hb b' hb' qb W w' qi qr :=
  ⟨(h.I.next_ k).up k.size (Nat.le_refl _), (h.R.next_ k).up k.size (Nat.le_refl _), h.s1, h.s2, h.s3, h.l1, h.l2, h.W.trans (k.mono (by have := h.I.l1; have := h.I.u1; have := h.l1; omega))⟩
theorem Duo.dn (h : Duo B lo lo' b rb hb b' hb' qb W w qi qr) (n : Nat) : Duo B lo lo' b rb hb b' hb' qb W (w.drewN n) qi qr := h.below (below_dn (Below.refl _ _) n)
theorem Duo.impl {S : Nat → Prop} {qi' : Iq} (h : Duo B lo lo' b rb hb b' hb' qb W w qi qr) (hw : Wrote S w w') (hS : ∀ k, S k → k = b ∨ k = rb ∨ k = hb) (hI : Intk (apart b' hb' qb) lo w'.heap.size w' b rb hb qi') : Duo B lo lo' b rb hb b' hb' qb W w' qi' qr := by
  have hl : ∀ k, S k → k < lo' := fun k hk => by rcases hS k hk with rfl | rfl | rfl; exact h.s1; exact h.s2; exact h.s3
  refine ⟨hI, (h.R.wrote hw hl).up hw.size (Nat.le_refl _), h.s1, h.s2, h.s3, h.l1, h.l2, h.W.trans (hw.below (by have := h.I.l1; have := h.I.u1; have := h.l1; omega) fun k hk => ?_)⟩
  have := h.l1
  rcases hS k hk with rfl | rfl | rfl
  · have := h.I.l1; omega
  · have := h.I.l2; omega
  · have := h.I.l3; omega
theorem Duo.ref {S : Nat → Prop} {qr' : Iq} {qb' : Option Nat} (h : Duo B lo lo' b rb hb b' hb' qb W w qi qr) (hw : Wrote S w w') (hS : ∀ k, S k → apart b' hb' qb k) (hR : RIntk lo' w'.heap.size w' b' hb' qb' qr') (hq' : qb' = qb ∨ ∃ g, qb' = some g ∧ w.heap.size ≤ g) : Duo B lo lo' b rb hb b' hb' qb' W w' qi qr' := by
  have hge : ∀ k, S k → lo' ≤ k := fun k hk => by
    rcases hS k hk with rfl | rfl | e
    · exact h.R.l1
    · exact h.R.l3
    · exact (h.R.qlo k e).1
  have n1 : ¬ S b := fun e => by have := hge b e; have := h.s1; omega
  have n2 : ¬ S rb := fun e => by have := hge rb e; have := h.s2; omega
  have n3 : ¬ S hb := fun e => by have := hge hb e; have := h.s3; omega
  have hI := ((h.I.wrote hw hS n1 n2 n3).xmono (X' := apart b' hb' qb') fun k hk e => by
    rcases e with e | e | e
    · exact .inl e
    · exact .inr (.inl e)
    · rcases hq' with e2 | ⟨g, e2, hg⟩
      · rw [e2] at e; exact .inr (.inr e)
      · rw [e2] at e; injection e with e; omega).up hw.size (Nat.le_refl _)
  refine ⟨hI, hR, h.s1, h.s2, h.s3, h.l1, h.l2, h.W.trans (hw.below (by have := h.I.l1; have := h.I.u1; have := h.l1; omega) fun k hk => ?_)⟩
  have := hge k hk
  have := h.l1
  have := h.l2
  omega
theorem Duo.apartLt (h : Duo B lo lo' b rb hb b' hb' qb W w qi qr) : ∀ k, apart b' hb' qb k → k < w.heap.size := fun k hk => by
  rcases hk with rfl | rfl | e
  · exact h.R.u1
  · exact h.R.u3
  · exact (h.R.qlo k e).2.1
end

theorem Rw.keepB {α : Type} {K : Kind α} {B : Nat} {w w' : World} {v : Value} {xs : List α} (h : Rw K (· < B) w v xs) (hb : Below B w w') : Rw K (· < B) w' v xs := h.keep fun k _ hF => hb.block k hF

theorem held_at {X : Nat → Prop} (lo hi b rb hb : Nat) (q : Iq) (x z : Int) (hz : z = if x < 0 then 0 else ((q.held.getD x.toNat []).length : Int)) (w : World) (h : Intk X lo hi w b rb hb q) :
    Calls Try.prog 29 #[.pointer (some ⟨b, 0, none⟩), .int .i64 x] w fun e w' => e = .returned (.int .i64 z) ∧ w' = w := by
  subst hz; exact held_any lo hi b rb hb q x w h
theorem rheld_at (lo hi b hb : Nat) (qb : Option Nat) (q : Iq) (x z : Int) (hz : z = if x < 0 then 0 else ((q.held.getD x.toNat []).length : Int)) (w : World) (h : RIntk lo hi w b hb qb q) :
    Calls Try.prog 30 #[.pointer (some ⟨b, 0, none⟩), .int .i64 x] w fun e w' => e = .returned (.int .i64 z) ∧ w' = w := by
  subst hz; exact rheld_any lo hi b hb qb q x w h

theorem step_at {X : Nat → Prop} (lo hi b rb hb : Nat) (q : Iq) (x : Int) (r : Nat × Sp.T × Nat × Iq) (hr : q.step x = r) (w : World) (h : Intk X lo hi w b rb hb q) :
    Calls Try.prog 12 #[.pointer (some ⟨b, 0, none⟩), .int .i64 x] w (StepPost X lo b rb hb r w) := by
  subst hr; exact step_any lo hi b rb hb q x w h
theorem rstep_at (lo hi b hb : Nat) (qb : Option Nat) (q : Iq) (x : Int) (r : Nat × Sp.T × Nat × Iq) (hr : q.step x = r) (w : World) (h : RIntk lo hi w b hb qb q) :
    Calls Try.prog 25 #[.pointer (some ⟨b, 0, none⟩), .int .i64 x] w (RStepPost lo b hb qb r w) := by
  subst hr; exact rstep_any lo hi b hb qb q x w h

theorem Iq.offer_next (q : Iq) (l : List Sp.T) : (q.offer l).2.next ≤ q.next + 1 := by
  unfold Iq.offer
  split
  · exact Nat.le_succ _
  · split
    · exact Nat.le_succ _
    · split
      · exact Nat.le_succ _
      · exact Nat.le_refl _
theorem Iq.step_next (q : Iq) (x : Int) : (q.step x).2.2.2.next = q.next := by
  unfold Iq.step
  split
  · rfl
  · split
    · rfl
    · split <;> rfl
end Go.Proofs.Ytiofhmlmimbngaa
