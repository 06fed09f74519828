/- The skip list's table in memory. -/
import Derived.Test.YtdjjkdhhjdafmaaSkM
import Derived.Test.YtdjjkdhhjdafmaaOrdW
import Derived.Deep.CutBlock
import Derived.Deep.CutRange
import Derived.Deep.DeepCutAuto
namespace Go.Proofs.Ytdjjkdhhjdafmaa
open Go.RowKit

def Tw.size (t : Tw) : Nat := t.e.key.length + t.e.value.length + 32
def sizeOf_ (ts : List Tw) : Nat := (ts.map Tw.size).sum

/-- Where a table lies: its own block and its towers from block a on; its keys and values in the blocks of p. -/
structure Lo where
  a : Nat
  p : Nat → Prop

/-- The blocks that hold keys and values. -/
def fk (lo : Lo) (b : Nat) (l : List Tw) (k : Nat) : Prop := lo.p k ∧ k ≠ b ∧ ∀ t ∈ l, t.b ≠ k

/-- A table: its own block b, its head hd, its towers ts; all blocks lie from lo on. -/
structure Skp (lo : Lo) (w : World) (b : Nat) (hd : Tw) (ts : List Tw) : Prop where
  blk : Blk w b #[hd.ptr, .int .i64 (ts.length : Int), .int .i64 (sizeOf_ ts : Int)] 59
  ch : ChainTo (fk lo b (hd :: ts)) w (hd :: ts) []
  h12 : hd.h = 12
  hs : ∀ t ∈ ts, 1 ≤ t.h ∧ t.h ≤ 12
  nd : ((hd :: ts).map Tw.b).Nodup
  ne : ∀ t ∈ hd :: ts, t.b ≠ b
  l1 : lo.a ≤ b
  l2 : ∀ t ∈ hd :: ts, lo.a ≤ t.b
  up : Rising ts
  few : ts.length ≤ 1000000
  sm : sizeOf_ ts ≤ ts.length * 100000
  pu : ∀ k, w.heap.size ≤ k → lo.p k

section
variable {lo : Lo} {b : Nat} {w w' : World} {hd : Tw} {ts : List Tw}
theorem Skp.below (h : Skp lo w b hd ts) (k : Below w.heap.size w w') : Skp lo w' b hd ts :=
  { h with blk := h.blk.below k h.blk.lt, ch := h.ch.below k, pu := fun i hi => h.pu i (Nat.le_trans k.size hi) }
theorem Skp.mono {q : Nat → Prop} (h : Skp lo w b hd ts) (h1 : ∀ k, k < w.heap.size → lo.p k → q k) (h2 : ∀ k, w.heap.size ≤ k → q k) : Skp ⟨lo.a, q⟩ w b hd ts :=
  { h with ch := h.ch.mono fun k hk hF => ⟨h1 k hk hF.1, hF.2⟩, pu := h2 }
theorem Skp.keep (h : Skp lo w b hd ts) (hs : w.heap.size ≤ w'.heap.size) (hk : ∀ k, k < w.heap.size → (k = b ∨ (∃ t ∈ hd :: ts, t.b = k) ∨ lo.p k) → w'.heap[k]? = w.heap[k]?) : Skp lo w' b hd ts :=
  { h with blk := h.blk.same (hk b h.blk.lt (.inl rfl)), ch := h.ch.keep fun k hk' hF => hk k hk' (by rcases hF with hF | hF; exact .inr (.inl hF); exact .inr (.inr hF.1)), pu := fun i hi => h.pu i (Nat.le_trans hs hi) }
theorem Skp.dn (h : Skp lo w b hd ts) (n : Nat) : Skp lo (w.drewN n) b hd ts := h.below ⟨rfl, rfl, rfl, Nat.le_refl _, fun _ _ => rfl⟩
theorem Skp.lo_le (h : Skp lo w b hd ts) : lo.a ≤ w.heap.size := by have := h.l1; have := h.blk.lt; omega
end

theorem skNone_false {lo : Lo} {b : Nat} {w : World} {hd : Tw} {ts : List Tw} (h : Skp lo w b hd ts) :
    Calls Try.prog 35 #[.pointer (some ⟨b, 0, none⟩)] w fun e w' => e = .returned (.bool false) ∧ w' = w := by
  have k0 : w.cell? ⟨b, 0, none⟩ = some (.pointer (some ⟨hd.b, 0, none⟩)) := h.blk.cell rfl
  clear h
  go_enter Try.func35, Try.ntmps35
  go_wp2_with fail
  go_ret
  exact ⟨rfl, rfl⟩

/-- The cells of two entries' keys and numbers. -/
def CE (z : Nat) (a b : Ent) (va vb : Value) (w' : World) : Prop :=
  w'.cell? ⟨z, 0, none⟩ = some va ∧ w'.cell? ⟨z, 1, none⟩ = some (.int .u64 a.seq) ∧ w'.cell? ⟨z + 1, 0, none⟩ = some vb ∧ w'.cell? ⟨z + 1, 1, none⟩ = some (.int .u64 b.seq)
theorem CE.keep {B z : Nat} {a b : Ent} {va vb : Value} {w w' : World} (h : CE z a b va vb w) (hb : Below B w w') (hz : z + 1 < B) : CE z a b va vb w' := by
  have e1 : ∀ i, w'.cell? ⟨z, i, none⟩ = w.cell? ⟨z, i, none⟩ := fun i => World.cell?_of_block (hb.block z (by omega))
  have e2 : ∀ i, w'.cell? ⟨z + 1, i, none⟩ = w.cell? ⟨z + 1, i, none⟩ := fun i => World.cell?_of_block (hb.block (z + 1) hz)
  unfold CE at *
  simp only [e1, e2]
  exact h

theorem below_drew {B : Nat} {w w' : World} (h : Below B w w') : Below B w w'.drew := ⟨h.os, h.tape, h.output, h.size, h.block⟩
theorem below_dn {B : Nat} {w w' : World} (h : Below B w w') (n : Nat) : Below B w (w'.drewN n) := ⟨h.os, h.tape, h.output, h.size, h.block⟩

set_option maxRecDepth 100000 in
theorem ecompare_any (F G : Nat → Prop) (a b : Ent) (ka va kb vb : Value) (w : World) (ha : Bytes F w ka a.key) (hb : Bytes G w kb b.key) :
    Calls Try.prog 52 #[.agg (entCells a ka va).toArray, .agg (entCells b kb vb).toArray] w fun e w' => e = .returned (.int .i64 (Ent.cmp a b)) ∧ Below w.heap.size w w' := by
  obtain ⟨aa, ca, rfl⟩ := ha.isSlice
  obtain ⟨ab, cb, rfl⟩ := hb.isSlice
  have HS := Lib.hid ha
  have HT := Lib.hid hb
  clear ha hb
  unfold entCells
  go_enter Try.func52, Try.ntmps52
  go_upto_region 1 with fail
  refine wp_gen fun w1 hw1 => ?_
  have HW1 : Hid (Below w.heap.size w w1) := by rw [hw1]; exact ((Below.refl _ _).alloc (Nat.le_refl _) _).alloc (by simp) _
  have HA1 : Hid (Blk w1 w.heap.size (entCells a (.slice aa a.key.length ca) va).toArray 34) := by rw [hw1]; exact (Blk.at_new rfl rfl).alloc _
  have HB1 : Hid (Blk w1 (w.heap.size + 1) (entCells b (.slice ab b.key.length cb) vb).toArray 34) := by rw [hw1]; exact Blk.at_new (by simp) rfl
  clear hw1
  have HC1 : Hid (CE w.heap.size a b (.slice aa a.key.length ca) (.slice ab b.key.length cb) w1.drew) := ⟨HA1.out.cell rfl, HA1.out.cell rfl, HB1.out.cell rfl, HB1.out.cell rfl⟩
  have HZ1 : Hid (w.heap.size + 1 < w1.drew.heap.size) := HB1.out.lt
  have HS1 : Hid (Bytes F w1.drew (.slice aa a.key.length ca) a.key) := (HS.out.below HW1.out).below (below_drew (Below.refl _ _))
  have HT1 : Hid (Bytes G w1.drew (.slice ab b.key.length cb) b.key) := (HT.out.below HW1.out).below (below_drew (Below.refl _ _))
  obtain ⟨x, hx⟩ : ∃ x, Ent.bcmp a.key b.key = x := ⟨_, rfl⟩
  obtain ⟨y, hy⟩ : ∃ y, Ent.sgn b.seq a.seq = y := ⟨_, rfl⟩
  have HR : Hid (Ent.cmp a b = Ent.lex x y) := by show _ = _; rw [← hx, ← hy]; rfl
  have HX := Lib.hid hx
  have HY := Lib.hid hy
  have HW0 : Hid (Below w.heap.size w w1.drew) := below_drew HW1.out
  clear hx hy HA1 HB1 HS HT
  go_region_held3 (fun w' => w'.cell? ⟨w.heap.size, 0, none⟩ = some (.slice aa a.key.length ca) ∧ w'.cell? ⟨w.heap.size, 1, none⟩ = some (.int .u64 a.seq) ∧ w'.cell? ⟨w.heap.size + 1, 0, none⟩ = some (.slice ab b.key.length cb) ∧ w'.cell? ⟨w.heap.size + 1, 1, none⟩ = some (.int .u64 b.seq))
    (first | exact HC1.out | exact HC1.out.keep ((Below.refl _ _).alloc (Nat.le_refl _) _) HZ1.out | exact HC1.out.keep (((Below.refl _ _).alloc (Nat.le_refl _) _).trans (hbx.mono (Nat.le_of_lt (by simp)))) HZ1.out)
    (first
      | (go_at_call 60; (with_reducible refine Calls.mono (bytesCompare_any _ _ _ _ a.key b.key _ HS1.out HT1.out) ?_); rintro e x1 ⟨rfl, rfl⟩; rw [HX.out])
      | (go_at_call 61; (with_reducible refine Calls.mono (cmpU64_any _ _ _) ?_); rintro e x2 ⟨rfl, rfl⟩; rw [HY.out])
      | (go_at_call 59; refine Calls.mono (or2_any x y _ _ (Blk.at_new rfl rfl)) ?_; rintro e x3 ⟨rfl, hbx⟩; skip))
  have HW3 : Hid (Below w.heap.size w x3) := HW0.out.trans ((((Below.refl _ _).alloc (Nat.le_refl _) _).trans (hbx.mono (Nat.le_of_lt (by simp)))).mono HW0.out.size)
  clear hbx
  go_wp2_with fail
  go_ret
  exact ⟨ret_int HR.out.symm, HW3.out⟩
end Go.Proofs.Ytdjjkdhhjdafmaa
