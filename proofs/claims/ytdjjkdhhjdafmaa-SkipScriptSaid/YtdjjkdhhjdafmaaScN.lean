/- The law SkipScript: the two insertions of a round, and what is told after them. -/
import Derived.Test.YtdjjkdhhjdafmaaScM
import Derived.Test.YtdjjkdhhjdafmaaSkAll
import Derived.Test.YtdjjkdhhjdafmaaSkLives
namespace Go.Proofs.Ytdjjkdhhjdafmaa
open Go.RowKit

theorem Rw.low {α : Type} {K : Kind α} {n₀ : Nat} {w w' : World} {v : Value} {xs : List α} (h : Rw K (· < n₀) w v xs) (hb : Below n₀ w w') : Rw K (· < n₀) w' v xs := h.keep fun k _ hF => hb.block k hF
theorem Bytes.low {n₀ : Nat} {w w' : World} {v : Value} {xs : List UInt8} (h : Bytes (· < n₀) w v xs) (hb : Below n₀ w w') : Bytes (· < n₀) w' v xs := h.keep fun k _ hF => hb.block k hF

section
variable {n₀ n z B b rb : Nat} {P q : Nat → Prop} {hd : Tw} {ts ts' : List Tw} {w w8 x1 x2 W' : World}

/-- After the first insertion. -/
structure Mid (n₀ n z B b rb : Nat) (P q : Nat → Prop) (hd : Tw) (ts ts' : List Tw) (w w8 x1 : World) : Prop where
  du : Du B P q b rb hd ts' (ents ts) (highs ts) x1
  new : ∀ t ∈ ts', t ∈ ts ∨ z ≤ t.b
  low : Below n₀ w x1
  size : z ≤ x1.heap.size
  same : ∀ g, n ≤ g → g < z → x1.heap[g]? = w8.heap[g]?
  few : ts'.length < 1000002

/-- After both. -/
structure Aft (n₀ n z B b rb : Nat) (P q : Nat → Prop) (hd : Tw) (ts : List Tw) (w x : World) : Prop where
  du : Du B P q b rb hd ts (ents ts) (highs ts) x
  out : ∀ g, n ≤ g → g < z → Du.Out P q b rb hd ts g
  low : Below n₀ w x
  size : z ≤ x.heap.size
  hB : n₀ ≤ B
  hn : n₀ ≤ n

theorem Aft.below (h : Aft n₀ n z B b rb P q hd ts w x1) (hb : Below x1.heap.size x1 W') : Aft n₀ n z B b rb P q hd ts w W' :=
  { h with du := h.du.below hb, low := h.low.trans (hb.mono (Nat.le_trans h.hB h.du.s.lo_le)), size := Nat.le_trans h.size hb.size }
theorem Aft.wipe {S : Nat → Prop} (h : Aft n₀ n z B b rb P q hd ts w x1) (hw : Wrote S x1 W') (hS : ∀ g, S g → n ≤ g ∧ g < z) : Aft n₀ n z B b rb P q hd ts w W' :=
  { h with
    du := h.du.wipe (fun g hg => h.out g (hS g hg).1 (hS g hg).2) hw
    low := h.low.trans (hw.below (Nat.le_trans h.hB h.du.s.lo_le) fun k hk => Nat.le_trans h.hn (hS k hk).1)
    size := Nat.le_trans h.size hw.size }

theorem sc_ins1 {p : Nat → Prop} {wr : World} (HD : Du B p q b rb hd ts (ents ts) (highs ts) wr) (HB8 : Below wr.heap.size wr w8) (HW : Below n₀ w wr) (hB : n₀ ≤ B) (hn : ts.length < 1000000) (F G : Nat → Prop) (e : Ent) (vk vv : Value) (h : Int)
    (hk : Bytes F w8 vk e.key) (hv : Bytes G w8 vv e.value) (hb : Below w8.heap.size w8 W') (hsz : W'.heap.size = w8.heap.size) :
    Calls Try.prog 11 #[.pointer (some ⟨b, 0, none⟩), .agg (entCells e vk vv).toArray, .int .i64 h] W' fun x x1 =>
      ∃ (c : Nat) (ts' : List Tw), x = .returned (.int .i64 (c : Int)) ∧ InsSays e h ts c ts' ∧ Mid n₀ wr.heap.size w8.heap.size B b rb (fresh p wr.heap.size w8.heap.size) q hd ts ts' w w8 x1 := by
  have HP := (HD.pre HB8).below hb
  have hlo := HD.s.lo_le
  have HW8 : Below n₀ w W' := (HW.trans (HB8.mono (Nat.le_trans hB hlo))).trans (hb.mono (Nat.le_trans (Nat.le_trans hB hlo) HB8.size))
  refine Calls.mono (insert_any _ b hd ts _ _ e vk vv h W' HP.s (hk.below hb) (hv.below hb) hn) ?_
  rintro _ x1 ⟨c, ts', rfl, hs6, hw6, hi6, hn6⟩
  rw [hsz] at hn6
  refine ⟨c, ts', rfl, hi6, HP.put hs6 hw6 (by rw [hsz]; exact hn6), hn6, HP.low hw6 HW8 hB, by rw [← hsz]; exact hw6.size, fun g h1 h2 => ?_, by have := hi6.len; omega⟩
  rw [HP.same hw6 ⟨HD.s.blk.lt, HD.s.ch.lt⟩ h1 (by rw [hsz]; exact h2)]
  exact hb.block g h2

theorem sc_ins2 {p : Nat → Prop} {wr : World} (HD : Du B p q b rb hd ts (ents ts) (highs ts) wr) (hB : n₀ ≤ B) (hn : ts.length < 1000000) {e : Ent} {h : Int} {c : Nat} (hi : InsSays e h ts c ts')
    (HM : Mid n₀ wr.heap.size w8.heap.size B b rb (fresh p wr.heap.size w8.heap.size) q hd ts ts' w w8 x1) (vk vv : Value) (hw0 : Below n₀ w wr) (hk : Bytes (· < n₀) wr vk e.key) (hv : Bytes (· < n₀) wr vv e.value) (hb : Below x1.heap.size x1 W') :
    Calls Try.prog 26 #[.pointer (some ⟨rb, 0, none⟩), .agg (entCells e vk vv).toArray, .int .i64 h] W' fun x x2 =>
      x = .returned (.int .i64 (c : Int)) ∧ (∃ q', Aft n₀ wr.heap.size w8.heap.size B b rb (fresh p wr.heap.size w8.heap.size) q' hd ts' w x2) ∧ ∀ g, wr.heap.size ≤ g → g < w8.heap.size → x2.heap[g]? = w8.heap[g]? := by
  have HP := HM.du.below hb
  have hlo := HD.s.lo_le
  have hx := HM.size
  have HW : Below n₀ w W' := HM.low.trans (hb.mono (Nat.le_trans hB HM.du.s.lo_le))
  refine Calls.mono (rfIns_any q rb (ents ts) (highs ts) (highs_len ts) (by rw [ents_len]; exact hn) _ _ e vk vv h W' HP.r (hk.keep fun k _ hF => (HW.block k hF).trans (hw0.block k hF).symm) (hv.keep fun k _ hF => (HW.block k hF).trans (hw0.block k hF).symm)) ?_
  rintro _ x2 ⟨c', es', hs', rfl, hr, hw, hri⟩
  obtain ⟨rfl, rfl, rfl⟩ := refIns_of hi hri
  refine ⟨rfl, ⟨_, HP.rput hr hw, fun g h1 h2 => HD.out rfl h1 h2 (w' := W') (by have := hb.size; omega) HM.new, HP.rlow hw HW hB, by have := hb.size; have := hw.size; omega, hB, Nat.le_trans hB hlo⟩, fun g h1 h2 => ?_⟩
  rw [hw.block g (by have := hb.size; omega) (by have := HD.r.lt; omega), hb.block g (by omega)]
  exact HM.same g h1 h2
end
end Go.Proofs.Ytdjjkdhhjdafmaa
